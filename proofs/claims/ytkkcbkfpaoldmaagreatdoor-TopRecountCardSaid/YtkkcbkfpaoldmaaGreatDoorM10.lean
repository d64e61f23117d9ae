/- Several texts in one: N13, N14, N15, N16, N17, N18, N19, N20, N40, N41, N42. -/
import Derived.Test.YtkkcbkfpaoldmaaGreatDoorM09
import Derived.Test.YtkkcbkfpaoldmaaGreatDoorLz
import Derived.Deep.RegionHeld
import Derived.BigQuiet
import Derived.BigGuardPart
/- How far a digit is to be moved. -/
namespace Go.Proofs.YtkkcbkfpaoldmaaGreatDoor
open Go Go.RowKit

theorem bitLenAux_spec : ∀ (f x : Nat), x < 2 ^ f → 0 < x → ∃ k, Lib.bitLenAux f x = k + 1 ∧ 2 ^ k ≤ x ∧ x < 2 ^ (k + 1)
  | 0, x, h, h0 => by simp at h; omega
  | f + 1, x, h, h0 => by
    simp only [Lib.bitLenAux, if_neg (show ¬ x = 0 by omega)]
    rcases Nat.eq_zero_or_pos (x / 2) with h2 | h2
    · refine ⟨0, ?_, by omega, by omega⟩
      rw [h2]
      cases f <;> simp [Lib.bitLenAux]
    · obtain ⟨k, h3, h4, h5⟩ := bitLenAux_spec f (x / 2) (by rw [Nat.pow_succ] at h; omega) h2
      refine ⟨k + 1, by omega, ?_, ?_⟩
      · rw [Nat.pow_succ]; omega
      · rw [Nat.pow_succ]; omega
/-- A digit that is not 0, moved by its leading zeros, is at least half the base. -/
theorem lead_digit (u : Nat) (h0 : 0 < u) (h : u < 1073741824) : ∃ s : Nat, s < 30 ∧ (64 - (Lib.bitLen u : Int)) - 34 = (s : Int) ∧ 1073741824 ≤ 2 * (u * 2 ^ s) ∧ u * 2 ^ s < 1073741824 := by
  obtain ⟨k, h1, h2, h3⟩ := bitLenAux_spec 64 u (by have : (2 : Nat) ^ 64 = 18446744073709551616 := by decide
                                                    omega) h0
  have hk : k < 30 := by
    rcases Nat.lt_or_ge k 30 with h4 | h4
    · exact h4
    · have := Nat.pow_le_pow_right (show 0 < 2 by decide) h4
      have e : (2 : Nat) ^ 30 = 1073741824 := by decide
      omega
  refine ⟨29 - k, by omega, by unfold Lib.bitLen; omega, ?_, ?_⟩
  · have h4 : 2 ^ k * 2 ^ (29 - k) ≤ u * 2 ^ (29 - k) := Nat.mul_le_mul_right _ h2
    rw [← Nat.pow_add, show k + (29 - k) = 29 by omega] at h4
    have e : (2 : Nat) ^ 29 = 536870912 := by decide
    omega
  · have h4 : u * 2 ^ (29 - k) < 2 ^ (k + 1) * 2 ^ (29 - k) := Nat.mul_lt_mul_of_pos_right h3 (Nat.pow_pos (by decide))
    rw [← Nat.pow_add, show k + 1 + (29 - k) = 30 by omega] at h4
    have e : (2 : Nat) ^ 30 = 1073741824 := by decide
    omega
end Go.Proofs.YtkkcbkfpaoldmaaGreatDoor

/- Walk: nat.Mul of integers that are not negative. -/
namespace Go.Proofs.YtkkcbkfpaoldmaaGreatDoor
open Go Go.RowKit

theorem tlen_trim {l : List Int} (h : TrimL l) : tlen l l.length = l.length := by
  cases e : l.length with
  | zero => rfl
  | succ n =>
    rw [tlen, if_neg]
    have := h (by omega)
    rwa [e, Nat.add_sub_cancel] at this
theorem wpr_gen {P : Program} {c : Code} {a : Act} {Q : Exit → Act → World → Prop} {W : World} (p : World → Prop) (hp : p W) (h : ∀ W0, p W0 → c.wp P Q a W0) : c.wp P Q a W := h W hp
/-- A region that never panics: what holds behind it alone is asked. -/
def onlyNormal (Q : Exit → Act → World → Prop) : Exit → Act → World → Prop
  | .normal, a, w => Q .normal a w
  | _, _, _ => False
theorem wp_only {P : Program} {c : Code} {a : Act} {w : World} {Q : Exit → Act → World → Prop} (h : c.wp P (onlyNormal Q) a w) : c.wp P Q a w :=
  wp_mono h fun e _ _ h => by
    cases e with
    | normal => exact h
    | _ => exact h.elim
theorem wp_store_big {o : Oper} {a : Act} {w : World} {K : Act → World → Prop} {Q : Exit → Act → World → Prop} (p y : Operand) (ho : o.op = .store 27 p y) {g : Nat} {c : Array Value} {tt : TypeId} (hg : Blk w g tt c) (neg : Bool) (A : Option Addr) (n k : Nat)
    (hx : a.eval p = .pointer (some ⟨g, 0, none⟩)) (hy : a.eval y = .agg #[.bool neg, .slice A n k]) (hold : c.size = 2)
    (h : ∀ w', Blk w' g tt #[.bool neg, .slice A n k] → Only w w' g → w'.heap.size = w.heap.size → K (a.put o.dst undef) w') : o.wp Tryz.prog a w K Q :=
  wp_store_row 27 p y ho g _ hx hy tt c hg bigSize (by rw [hold]; rfl) (by simp [Value.oneCell'])
    (h _ (setRow_heap w g c _ tt _ hg) ⟨rfl, rfl, rfl, by simp, fun i _ hne => setRow_other w g i _ (fun e => hne (by rw [e]))⟩ (by simp))
set_option maxRecDepth 100000 in
set_option linter.unusedSimpArgs false in
set_option linter.unusedVariables false in
set_option maxHeartbeats 4000000 in
theorem nMul_ok (A1 A2 : Option Addr) (l1 k1 l2 k2 : Nat) (a b : List Int) (w : World) (ha : BigOk w w.heap.size false A1 l1 k1 a) (hb : BigOk w w.heap.size false A2 l2 k2 b) (hlen : l1 + l2 ≤ 2048) :
    Calls Tryz.prog 78 #[.agg #[.bool false, .slice A1 l1 k1], .agg #[.bool false, .slice A2 l2 k2]] w (fun e w' => ∃ (l : List Int) (A : Option Addr) (c : Nat), e = .returned (.tuple #[.agg #[.bool false, .slice A l.length c], .int .i64 0]) ∧ valL l = valL a * valL b ∧ BigOk w' w'.heap.size false A l.length c l ∧ (∀ b, A = some b → w.heap.size ≤ b.block) ∧ Below w.heap.size w w') := by
  have HC := Lib.hid (fun W g (hg : Blk W g 27 #[.bool false, .slice A1 l1 k1, .bool false, .slice A2 l2 k2]) (h : Below w.heap.size w W) => ncheck_two false false A1 A2 l1 k1 l2 k2 a b g W hg ((ha.below h).more h.size) ((hb.below h).more h.size))
  have HM := Lib.hid (fun W (h : Below w.heap.size w W) => mul_any A1 A2 a b l1 l2 k1 k2 ha.len hb.len ha.dig hb.dig (by have := ha.few; omega) (by have := hb.few; omega) W ((ha.below h).more h.size).rd ((hb.below h).more h.size).rd)
  have HVR := Lib.hid (show valL a * valL b < bp 2048 by
    have h1 := valL_range ha.dig
    have h2 := valL_range hb.dig
    have h3 : valL a * valL b ≤ valL a * bp b.length := Int.mul_le_mul_of_nonneg_left (by omega) h1.1
    have h4 : valL a * bp b.length < bp a.length * bp b.length := Int.mul_lt_mul_of_pos_right h1.2 (bp_pos _)
    rw [← bp_add, ← ha.len, ← hb.len] at h4
    have h5 := bp_mono hlen
    rw [← hb.len] at h3
    omega)
  obtain ⟨V, hV⟩ : ∃ V, V = valL a * valL b := ⟨_, rfl⟩
  rw [← hV] at HM HVR ⊢
  clear ha hb hV hlen
  go_enter_defers Tryz.func78, Tryz.ntmps78
  go_wp2_with fail
  refine calls_gen (fun W => Blk W w.heap.size 27 #[.bool false, .slice A1 l1 k1] ∧ Blk W (w.heap.size + 1) 27 #[.bool false, .slice A2 l2 k2] ∧ Blk W (w.heap.size + 2) 27 #[.bool false, .slice none 0 0] ∧ Blk W (w.heap.size + 3) 32 #[.int .i64 0] ∧ Blk W (w.heap.size + 4) 27 #[.bool false, .slice A1 l1 k1, .bool false, .slice A2 l2 k2] ∧ Below w.heap.size w W)
    ⟨((((Blk.new w _ _).alloc _).alloc _).alloc _).alloc _, (((Blk.new' _ _ _ (by simp)).alloc _).alloc _).alloc _, ((Blk.new' _ _ _ (by simp)).alloc _).alloc _, (Blk.new' _ _ _ (by simp)).alloc _, Blk.new' _ _ _ (by simp), (((((Below.refl _ w).alloc (Nat.le_refl _) _).alloc (by simp) _).alloc (by simp; omega) _).alloc (by simp; omega) _).alloc (by simp; omega) _⟩ (fun W0 ⟨b0, b1, b2, b3, b4, hB0⟩ => ?_)
  refine (HC.out W0 _ b4 hB0).mono ?_
  rintro e w1 ⟨rfl, hb1⟩
  have d0 := b0.below hb1 b0.lt
  have d1 := b1.below hb1 b1.lt
  have d2 := b2.below hb1 b2.lt
  have d3 := b3.below hb1 b3.lt
  have hB1 := hB0.trans (hb1.mono hB0.size)
  clear b0 b1 b2 b3 b4 hB0 hb1
  go_wp2_with fail
  have HST := Lib.hid (show ∀ W W', (Blk W w.heap.size 27 #[.bool false, .slice A1 l1 k1] ∧ Blk W (w.heap.size + 1) 27 #[.bool false, .slice A2 l2 k2] ∧ Below w.heap.size w W) → Below W.heap.size W W' → (Blk W' w.heap.size 27 #[.bool false, .slice A1 l1 k1] ∧ Blk W' (w.heap.size + 1) 27 #[.bool false, .slice A2 l2 k2] ∧ Below w.heap.size w W') from fun W W' h hb => ⟨h.1.below hb h.1.lt, h.2.1.below hb h.2.1.lt, h.2.2.trans (hb.mono h.2.2.size)⟩)
  refine wp_only ?_
  refine wp_region_held_drew (S := fun W' => Blk W' w.heap.size 27 #[.bool false, .slice A1 l1 k1] ∧ Blk W' (w.heap.size + 1) 27 #[.bool false, .slice A2 l2 k2] ∧ Below w.heap.size w W') (by kernel_rfl) ⟨d0.drew, d1.drew, hB1.drew⟩ (fun hS => ?_)
  have HB1z := Lib.hid (show w.heap.size ≤ w1.drew.heap.size from hB1.size)
  have e2 := d2.drew
  have e3 := d3.drew
  clear d0 d1 d2 d3 hB1
  refine wpAnyH_take (i := 0) (v := .pointer (some ⟨w.heap.size, 0, none⟩)) rfl (by kernel_rfl) (by kernel_rfl) (by kernel_rfl) (fun _ _ _ h => h) (Or.inl ⟨by rfl, fun W' hS' => by go_simp⟩) hS ?_
  simp only [Act.put, List.getElem_toArray, List.getElem_cons_zero, List.getElem_cons_succ, List.setIfInBounds_toArray, List.set_cons_zero, List.set_cons_succ]
  refine wpAnyH_take (i := 1) (v := .bool false) rfl (by kernel_rfl) (by kernel_rfl) (by kernel_rfl) (fun _ _ _ h => h) (Or.inl ⟨by rfl, fun W' hS' => by have h0 : W'.cell? ⟨w.heap.size, 0, none⟩ = some (.bool false) := hS'.1.cell 0; go_simp⟩) hS ?_
  simp only [Act.put, List.getElem_toArray, List.getElem_cons_zero, List.getElem_cons_succ, List.setIfInBounds_toArray, List.set_cons_zero, List.set_cons_succ]
  refine wpAnyH_take (i := 2) (v := .pointer (some ⟨w.heap.size + 1, 0, none⟩)) rfl (by kernel_rfl) (by kernel_rfl) (by kernel_rfl) (fun _ _ _ h => h) (Or.inl ⟨by rfl, fun W' hS' => by go_simp⟩) hS ?_
  simp only [Act.put, List.getElem_toArray, List.getElem_cons_zero, List.getElem_cons_succ, List.setIfInBounds_toArray, List.set_cons_zero, List.set_cons_succ]
  refine wpAnyH_take (i := 3) (v := .bool false) rfl (by kernel_rfl) (by kernel_rfl) (by kernel_rfl) (fun _ _ _ h => h) (Or.inl ⟨by rfl, fun W' hS' => by have h0 : W'.cell? ⟨w.heap.size + 1, 0, none⟩ = some (.bool false) := hS'.2.1.cell 0; go_simp⟩) hS ?_
  simp only [Act.put, List.getElem_toArray, List.getElem_cons_zero, List.getElem_cons_succ, List.setIfInBounds_toArray, List.set_cons_zero, List.set_cons_succ]
  refine wpAnyH_take (i := 4) (v := .bool false) rfl (by kernel_rfl) (by kernel_rfl) (by kernel_rfl) (fun _ _ _ h => h) (Or.inl ⟨by rfl, fun W' hS' => by go_simp⟩) hS ?_
  simp only [Act.put, List.getElem_toArray, List.getElem_cons_zero, List.getElem_cons_succ, List.setIfInBounds_toArray, List.set_cons_zero, List.set_cons_succ]
  refine wpAnyH_take (i := 5) (v := .pointer (some ⟨w.heap.size, 1, none⟩)) rfl (by kernel_rfl) (by kernel_rfl) (by kernel_rfl) (fun _ _ _ h => h) (Or.inl ⟨by rfl, fun W' hS' => by go_simp⟩) hS ?_
  simp only [Act.put, List.getElem_toArray, List.getElem_cons_zero, List.getElem_cons_succ, List.setIfInBounds_toArray, List.set_cons_zero, List.set_cons_succ]
  refine wpAnyH_take (i := 6) (v := .slice A1 l1 k1) rfl (by kernel_rfl) (by kernel_rfl) (by kernel_rfl) (fun _ _ _ h => h) (Or.inl ⟨by rfl, fun W' hS' => by have h0 : W'.cell? ⟨w.heap.size, 1, none⟩ = some (.slice A1 l1 k1) := hS'.1.cell 1; go_simp⟩) hS ?_
  simp only [Act.put, List.getElem_toArray, List.getElem_cons_zero, List.getElem_cons_succ, List.setIfInBounds_toArray, List.set_cons_zero, List.set_cons_succ]
  refine wpAnyH_take (i := 7) (v := .pointer (some ⟨w.heap.size + 1, 1, none⟩)) rfl (by kernel_rfl) (by kernel_rfl) (by kernel_rfl) (fun _ _ _ h => h) (Or.inl ⟨by rfl, fun W' hS' => by go_simp⟩) hS ?_
  simp only [Act.put, List.getElem_toArray, List.getElem_cons_zero, List.getElem_cons_succ, List.setIfInBounds_toArray, List.set_cons_zero, List.set_cons_succ]
  refine wpAnyH_take (i := 8) (v := .slice A2 l2 k2) rfl (by kernel_rfl) (by kernel_rfl) (by kernel_rfl) (fun _ _ _ h => h) (Or.inl ⟨by rfl, fun W' hS' => by have h0 : W'.cell? ⟨w.heap.size + 1, 1, none⟩ = some (.slice A2 l2 k2) := hS'.2.1.cell 1; go_simp⟩) hS ?_
  simp only [Act.put, List.getElem_toArray, List.getElem_cons_zero, List.getElem_cons_succ, List.setIfInBounds_toArray, List.set_cons_zero, List.set_cons_succ]
  refine wpAnyH_ready (rs := [9]) (by kernel_rfl) (by simp) ?_
  refine AllReadyH.cons rfl (fun Kq hKq => ?_) AllReadyH.nil
  simp only [List.getElem_toArray, List.getElem_cons_zero, List.getElem_cons_succ]
  go_simp
  refine (HM.out _ hS.2.2).mono ?_
  rintro e W1 ⟨l, A, c, rfl, h1, h2, h3, h4, h5, h6, h7, hb1⟩
  have hS1 := HST.out _ _ hS hb1
  have f2 := e2.below hb1 e2.lt
  have f3 := e3.below hb1 e3.lt
  have hlen : l.length ≤ 2048 := by
    rcases Nat.lt_or_ge 2048 l.length with h | h
    · obtain ⟨m, hm⟩ : ∃ m, l.length = m + 1 := ⟨l.length - 1, by omega⟩
      have h8 := valL_top h4 h5 hm
      have h9 := bp_mono (show 2048 ≤ m by omega)
      have := HVR.out
      omega
    · exact h
  have hmr := h7.mrd rfl
  have HNB := Lib.hid (fun W (hb : Below W1.heap.size W1 W) => nbig_ok A l l.length c rfl h1 (by omega) (by omega) (by rw [tlen_trim h5]; exact hlen) W ((hmr.below hb).more hb.size))
  rw [tlen_trim h5] at HNB
  have HIO := Lib.hid h7
  have hbz := e3.lt
  obtain ⟨m, hm⟩ : ∃ m, m = l.length := ⟨_, rfl⟩
  rw [← hm] at HNB ⊢
  have HMM := Lib.hid hm
  refine hKq.out _ _ hS1 (fun _ => ?_)
  clear hKq Kq hS e2 e3 hmr h7 hm
  refine wpAnyH_ready (rs := [10]) (by kernel_rfl) (by simp) ?_
  refine AllReadyH.cons rfl (fun Kq hKq => ?_) AllReadyH.nil
  simp only [List.getElem_toArray, List.getElem_cons_zero, List.getElem_cons_succ]
  go_simp
  refine (HNB.out _ (Below.refl _ _)).mono ?_
  rintro e W2 ⟨rfl, hb2⟩
  have hS2 := HST.out _ _ hS1 hb2
  have g2 := f2.below hb2 f2.lt
  have g3 := f3.below hb2 f3.lt
  refine hKq.out _ _ hS2 (fun _ => ?_)
  clear hKq Kq hS1 f2 f3
  refine wpAnyH_ready (rs := [11]) (by kernel_rfl) (by simp) ?_
  refine AllReadyH.cons rfl (fun Kq hKq => ?_) AllReadyH.nil
  simp only [List.getElem_toArray, List.getElem_cons_zero, List.getElem_cons_succ]
  rw [if_pos (by rfl)]
  refine wp_store_big _ _ rfl g2 false A m c rfl rfl rfl ?_
  intro W3 hD3 hO3 hz3
  have hz2 : w.heap.size ≤ W2.heap.size := hS2.2.2.size
  have hS3 : Blk W3 w.heap.size 27 #[.bool false, .slice A1 l1 k1] ∧ Blk W3 (w.heap.size + 1) 27 #[.bool false, .slice A2 l2 k2] ∧ Below w.heap.size w W3 := ⟨(hO3.block _ hS2.1.lt (fun e => by have := Option.some.inj e; omega)).trans hS2.1, (hO3.block _ hS2.2.1.lt (fun e => by have := Option.some.inj e; omega)).trans hS2.2.1, hS2.2.2.trans (hO3.toBelow hz2 (by omega))⟩
  have j3 : Blk W3 (w.heap.size + 3) 32 #[.int .i64 0] := (hO3.block _ g3.lt (fun e => by have := Option.some.inj e; omega)).trans g3
  refine hKq.out _ _ hS3 (fun _ => ?_)
  clear hKq Kq
  have z3 : W3.cell? ⟨w.heap.size + 3, 0, none⟩ = some (.int .i64 0) := j3.cell 0
  have y3 := j3.frozen 0
  refine wpAnyH_ready (rs := [12]) (by kernel_rfl) (by simp) ?_
  refine AllReadyH.cons rfl (fun Kq hKq => ?_) AllReadyH.nil
  simp only [List.getElem_toArray, List.getElem_cons_zero, List.getElem_cons_succ]
  go_simp
  have hD4 : Blk (W3.setCell ⟨w.heap.size + 3, 0, none⟩ (.int .i64 0)) (w.heap.size + 2) 27 #[.bool false, .slice A m c] := hD3.far (p := ⟨w.heap.size + 3, 0, none⟩) (by show w.heap.size + 2 ≠ w.heap.size + 3; omega) _
  have j4 : Blk (W3.setCell ⟨w.heap.size + 3, 0, none⟩ (.int .i64 0)) (w.heap.size + 3) 32 #[.int .i64 0] := j3.set 0 _
  have hS4 : Blk (W3.setCell ⟨w.heap.size + 3, 0, none⟩ (.int .i64 0)) w.heap.size 27 #[.bool false, .slice A1 l1 k1] ∧ Blk (W3.setCell ⟨w.heap.size + 3, 0, none⟩ (.int .i64 0)) (w.heap.size + 1) 27 #[.bool false, .slice A2 l2 k2] ∧ Below w.heap.size w (W3.setCell ⟨w.heap.size + 3, 0, none⟩ (.int .i64 0)) := ⟨hS3.1.far (p := ⟨w.heap.size + 3, 0, none⟩) (by show w.heap.size ≠ w.heap.size + 3; omega) _, hS3.2.1.far (p := ⟨w.heap.size + 3, 0, none⟩) (by show w.heap.size + 1 ≠ w.heap.size + 3; omega) _, hS3.2.2.setCell (p := ⟨w.heap.size + 3, 0, none⟩) (by show w.heap.size ≤ w.heap.size + 3; omega) _⟩
  refine hKq.out _ _ hS4 (fun _ => ?_)
  clear hKq Kq
  have hIO : IOwn (W3.setCell ⟨w.heap.size + 3, 0, none⟩ (.int .i64 0)) w1.drew.heap.size (.slice A l.length c) l := by
    have i2 := IOwn.below HIO.out hb2
    have i3 : IOwn W3 w1.drew.heap.size (.slice A l.length c) l := World.ownsRow.kept i2 hO3 (by
      cases e : (Value.slice A l.length c).ownBlock with
      | none => exact .inl rfl
      | some g => exact .inr fun e2 => by have h3 := (World.ownsRow.lt i2 g e).1; cases e2; omega)
    exact ownsRow_setCell_below i3 (by show w.heap.size + 3 < w1.drew.heap.size; exact hbz) _
  generalize W3.setCell ⟨w.heap.size + 3, 0, none⟩ (.int .i64 0) = W4 at hD4 j4 hS4 hIO ⊢
  refine wpAnyH_done (by kernel_rfl) ?_ _
  simp only [onlyNormal]
  go_wp2_with fail
  refine leaves_cons (f := 79) (args := #[.pointer (some ⟨w.heap.size + 3, 0, none⟩)]) (by simp) (by simp [go_sem]) ?_
  refine (ncaught_idle ⟨w.heap.size + 3, 0, none⟩ _).mono ?_
  rintro e u' w'' ⟨rfl, rfl, rfl⟩
  have c0 : w''.cell? ⟨w.heap.size + 1 + 1, 0, none⟩ = some (.bool false) := hD4.cell 0
  have c1 : w''.cell? ⟨w.heap.size + 1 + 1, 1, none⟩ = some (.slice A m c) := hD4.cell 1
  have c3 : w''.cell? ⟨w.heap.size + 1 + 1 + 1, 0, none⟩ = some (.int .i64 0) := j4.cell 0
  simp only [Leaves, settle, results, Tryz.f78]
  simp [go_sem, c0, c1, c3, Result.andThen]
  refine ⟨l, A, c, ⟨rfl, HMM.out, rfl⟩, h6, ⟨rfl, h1, by omega, h3, h4, h5, hlen, fun _ => rfl, hIO.mrd rfl⟩, fun b e => by have h := (World.ownsRow.lt hIO b.block (by rw [e]; rfl)).1; have hz := HB1z.out; omega, hS4.2.2⟩
end Go.Proofs.YtkkcbkfpaoldmaaGreatDoor

/- Walks: ratio.need, did; ratio.caught, recount.caught (where nothing was panicked); ratio.positive. -/
namespace Go.Proofs.YtkkcbkfpaoldmaaGreatDoor
open Go Go.RowKit

set_option maxRecDepth 100000 in
theorem qneed_ok (e : Int) (w : World) : Calls Tryz.prog 75 #[.bool true, .int .i64 e] w (fun en w' => en = .returned (.tuple #[]) ∧ w = w') := by
  go_enter Tryz.func75, Tryz.ntmps75
  go_wp2_with fail
  go_end0
  exact ⟨rfl, rfl⟩
set_option maxRecDepth 100000 in
set_option linter.unusedSimpArgs false in
set_option linter.unusedVariables false in
set_option maxHeartbeats 2000000 in
theorem qdidB_ok (A : Option Addr) (n c : Nat) (w : World) : Calls Tryz.prog 77 #[.agg #[.bool false, .slice A n c], .int .i64 0] w (Ret (.agg #[.bool false, .slice A n c]) w) := by
  go_enter Tryz.func77, Tryz.ntmps77
  go_wp2_with fail
  refine calls_gen (fun W => Blk W w.heap.size 27 #[.bool false, .slice A n c] ∧ Blk W (w.heap.size + 1) 27 #[.bool false, .slice none 0 0] ∧ Below w.heap.size w W) ⟨(Blk.new w _ _).alloc _, Blk.new' _ _ _ (by simp), ((Below.refl _ w).alloc (Nat.le_refl _) _).alloc (by simp) _⟩ (fun W0 ⟨b0, b1, hB0⟩ => ?_)
  refine (qneed_ok 0 W0).mono ?_
  rintro e w1 ⟨rfl, rfl⟩
  go_wp2_with (first
    | (refine load_big rfl _ rfl w.heap.size 0 false A n c (big_range b0) rfl ?_)
    | (refine store_big rfl _ _ rfl b1 false A n c rfl rfl rfl ?_; intro w8 hD8 hO8 hz8))
  refine bodyPost_ret (results_cell_row rfl _ _ (w.heap.size + 1) 27 _ (0, 0) _ rfl hD8 Tryz.underlying27 rfl bigSize) rfl ?_
  exact ⟨rfl, hB0.trans (hO8.toBelow hB0.size (Nat.le_succ _))⟩
set_option maxRecDepth 100000 in
set_option linter.unusedSimpArgs false in
set_option maxHeartbeats 2000000 in
theorem qdid_ok (z : Int) (w : World) : Calls Tryz.prog 50 #[.int .i64 z, .int .i64 0] w (Ret (.int .i64 z) w) := by
  go_enter Tryz.func50, Tryz.ntmps50
  go_wp2_with fail
  refine (qneed_ok 0 _).mono ?_
  rintro e w1 ⟨rfl, rfl⟩
  go_wp2_with fail
  go_ret
  exact ⟨rfl, Below.refl _ _⟩
set_option maxRecDepth 100000 in
theorem qcaught_idle (p : Addr) (w : World) : CallsD Tryz.prog 47 #[.pointer (some p)] .returning w fun e u' w' => e = .returned (.tuple #[]) ∧ u' = .returning ∧ w' = w := by
  refine callsD_of_wpS Tryz.func47 rfl fun c₀ cs hu => ?_
  apply wpS_seq
  apply wpS_region
  simp [wpOpsS, go_sem, recoverD, hu, Tryz.ntmps47, Exit.thenS]
  refine wpS_of_wp ?_
  go_wp2
  cases c₀
  simp_all [bodyPostS, results, Tryz.results47]
set_option maxRecDepth 100000 in
theorem rccaught_idle (p : Addr) (w : World) : CallsD Tryz.prog 41 #[.pointer (some p)] .returning w fun e u' w' => e = .returned (.tuple #[]) ∧ u' = .returning ∧ w' = w := by
  refine callsD_of_wpS Tryz.func41 rfl fun c₀ cs hu => ?_
  apply wpS_seq
  apply wpS_region
  simp [wpOpsS, go_sem, recoverD, hu, Tryz.ntmps41, Exit.thenS]
  apply wpS_seq
  apply wpS_region
  simp [wpOpsS, go_sem, recoverD, hu, Exit.thenS]
  refine wpS_cond (t := false) (by simp [Act.eval, Array.replicate]) ?_
  simp only [Bool.false_eq_true, if_false]
  refine wpS_of_wp (wp_skip ?_)
  cases c₀
  simp_all [bodyPostS, results, Tryz.results41]
set_option maxRecDepth 100000 in
set_option linter.unusedSimpArgs false in
theorem qpositive_ok (A : Option Addr) (n c : Nat) (hn : 0 < n) (w : World) : Calls Tryz.prog 54 #[.agg #[.bool false, .slice A n c]] w (Ret (.bool true) w) := by
  have g1 : decide ((0 : Int) < (n : Int)) = true := decide_eq_true (by omega)
  have g2 : decide (0 < n) = true := decide_eq_true hn
  go_enter Tryz.func54, Tryz.ntmps54
  go_wp2_with fail
  go_ret
  exact ⟨rfl, (Below.refl _ w).alloc (Nat.le_refl _) _⟩
end Go.Proofs.YtkkcbkfpaoldmaaGreatDoor

/- Walks: risk.within, sheets.between. -/
namespace Go.Proofs.YtkkcbkfpaoldmaaGreatDoor
open Go Go.RowKit

set_option maxRecDepth 100000 in
set_option linter.unusedSimpArgs false in
theorem within_ok (n l : Int) (h0 : 0 ≤ n) (h1 : n ≤ l) (w : World) : Calls Tryz.prog 20 #[.int .i64 n, .int .i64 l] w (fun e w' => e = .returned (.bool true) ∧ w = w') := by
  have g0 : decide (0 ≤ n) = true := decide_eq_true h0
  have g1 : decide (n ≤ l) = true := decide_eq_true h1
  go_enter Tryz.func20, Tryz.ntmps20
  go_wp2_with fail
  go_ret
  exact ⟨rfl, rfl⟩
set_option maxRecDepth 100000 in
set_option linter.unusedSimpArgs false in
theorem between_ok (n l m : Int) (h0 : l ≤ n) (h1 : n ≤ m) (w : World) : Calls Tryz.prog 39 #[.int .i64 n, .int .i64 l, .int .i64 m] w (fun e w' => e = .returned (.bool true) ∧ w = w') := by
  have g0 : decide (l ≤ n) = true := decide_eq_true h0
  have g1 : decide (n ≤ m) = true := decide_eq_true h1
  go_enter Tryz.func39, Tryz.ntmps39
  go_wp2_with fail
  go_ret
  exact ⟨rfl, rfl⟩
end Go.Proofs.YtkkcbkfpaoldmaaGreatDoor

/- Walks: podiumref09.trim. -/
namespace Go.Proofs.YtkkcbkfpaoldmaaGreatDoor
open Go Go.RowKit

set_option maxRecDepth 100000 in
set_option linter.unusedSimpArgs false in
set_option linter.unusedVariables false in
set_option maxHeartbeats 4000000 in
theorem rtrim_any (A : Option Addr) (l : List Int) (n c : Nat) (hn : n = l.length) (hc : n ≤ c) (hc2 : c ≤ 9223372036854775807) (hn2 : n ≤ 4611686018427387903) (w : World) (hR : MRd w w.heap.size A l) : Calls Tryz.prog 86 #[.slice A n c] w (Ret (.slice A (tlen l n) c) w) := by
  have HR := Lib.hid hR
  have HN := Lib.hid hn
  clear hR hn
  go_enter Tryz.func86, Tryz.ntmps86
  go_wp2_with fail
  go_loopw [3] (fun i wr => ∃ k : Nat, k ≤ n ∧ i = .int .i64 k ∧ tlen l k = tlen l n ∧ Below w.heap.size w wr) (fun i _ => (intOf i).toNat)
  case atStart => exact ⟨n, Nat.le_refl _, rfl, rfl, Below.refl _ _⟩
  case round =>
    obtain ⟨k, hk, rfl, ht, hB⟩ := hrel
    have HT := Lib.hid ht
    clear ht
    rcases Nat.eq_zero_or_pos k with rfl | h0
    · have g0 : decide ((0 : Int) < ((0 : Nat) : Int)) = false := by decide
      go_wp2_with (refine wpList_skip (by rfl) ?_)
      go_ret
      exact ⟨by rw [← HT.out]; rfl, hB⟩
    · obtain ⟨s, rfl⟩ : ∃ s, k = s + 1 := ⟨k - 1, by omega⟩
      have g0 : decide ((0 : Int) < ((s + 1 : Nat) : Int)) = true := decide_eq_true (by omega)
      have hs1 : ((s + 1 : Nat) : Int) - 1 = (s : Int) := by omega
      have hs2 : IntKind.i64.wrap (s : Int) = (s : Int) := Go.IntWalk.i64_in _ (by omega)
      obtain ⟨b, off, rfl, hbl, hcell⟩ := (HR.out.below hB).at_ (k := s) (by rw [← HN.out]; omega)
      obtain ⟨x, hx⟩ : ∃ x, x = dg l s := ⟨_, rfl⟩
      rw [← hx] at hcell
      have HX := Lib.hid hx
      clear hx
      by_cases hx0 : x = 0
      · have g1 : (x == 0) = true := beq_iff_eq.2 hx0
        have HT2 := Lib.hid (show tlen l s = tlen l n by rw [← HT.out, tlen, if_pos (by rw [← HX.out]; exact hx0)])
        clear hx0
        go_wp2_with fail
        go_roundw
        case rel => exact ⟨s, by omega, by go_num, HT2.out, hB⟩
        case measure => simp [intOf]
      · have g1 : (x == 0) = false := beq_eq_false_iff_ne.2 hx0
        have HT2 := Lib.hid (show tlen l n = s + 1 by rw [← HT.out, tlen, if_neg (by rw [← HX.out]; exact hx0)])
        clear hx0
        go_wp2_with fail
        go_ret
        exact ⟨by rw [HT2.out]; rfl, hB⟩
set_option maxRecDepth 100000 in
set_option linter.unusedSimpArgs false in
theorem rdigit_any (A : Option Addr) (l : List Int) (n c i : Nat) (hn : n = l.length) (w : World) (hR : MRd w w.heap.size A l) : Calls Tryz.prog 106 #[.slice A n c, .int .i64 i] w (Ret (.int .i64 (dg l i)) w) := by
  rcases Nat.lt_or_ge i n with hi | hi
  · have g1 : decide ((i : Int) < (n : Int)) = true := decide_eq_true (by omega)
    obtain ⟨b, off, rfl, hbl, hcell⟩ := hR.at_ (k := i) (by rw [← hn]; exact hi)
    obtain ⟨x, hx⟩ : ∃ x, x = dg l i := ⟨_, rfl⟩
    rw [← hx] at hcell ⊢
    clear hx hn hR
    go_enter Tryz.func106, Tryz.ntmps106
    go_wp2_with fail
    go_ret
    exact ⟨rfl, Below.refl _ w⟩
  · have g1 : decide ((i : Int) < (n : Int)) = false := decide_eq_false (by omega)
    rw [show dg l i = 0 from dg_out (by omega)]
    clear hn hR
    go_enter Tryz.func106, Tryz.ntmps106
    go_wp2_with (refine wpList_skip (by rfl) ?_)
    go_ret
    exact ⟨rfl, Below.refl _ w⟩
end Go.Proofs.YtkkcbkfpaoldmaaGreatDoor

/- Walk: podiumref09.cmp. -/
namespace Go.Proofs.YtkkcbkfpaoldmaaGreatDoor
open Go Go.RowKit

/-- From k on, the digits are the same. -/
def SameFrom (n : Nat) (a b : List Int) (k : Nat) : Prop := ∀ i, k ≤ i → i < n → dg a i = dg b i
theorem sgn_lt {a b : List Int} {n : Nat} (hda : DigL a) (hdb : DigL b) (ha : n = a.length) (hb : n = b.length) {k : Nat} (hk : k < n) (hs : SameFrom n a b (k + 1)) (h : dg a k < dg b k) : sgn (valL a - valL b) = -1 := by
  have := dsum_lt_at (hda.digs n) (hdb.digs n) (j := k) hk (fun i h1 h2 => hs i h1 h2) h
  unfold sgn
  rw [if_pos]
  rw [valL, valL, ← ha, ← hb]
  omega
theorem sgn_gt {a b : List Int} {n : Nat} (hda : DigL a) (hdb : DigL b) (ha : n = a.length) (hb : n = b.length) {k : Nat} (hk : k < n) (hs : SameFrom n a b (k + 1)) (h : dg b k < dg a k) : sgn (valL a - valL b) = 1 := by
  have := dsum_lt_at (hdb.digs n) (hda.digs n) (j := k) hk (fun i h1 h2 => (hs i h1 h2).symm) h
  unfold sgn
  rw [if_neg, if_pos]
  · rw [valL, valL, ← ha, ← hb]
    omega
  · rw [valL, valL, ← ha, ← hb]
    omega
theorem sgn_eq {a b : List Int} {n : Nat} (ha : n = a.length) (hb : n = b.length) (hs : SameFrom n a b 0) : sgn (valL a - valL b) = 0 := by
  have e : valL a = valL b := by
    rw [valL, valL, ← ha, ← hb]
    exact dsum_congr fun i hi => hs i (Nat.zero_le _) hi
  rw [e]
  unfold sgn
  rw [if_neg (by omega), if_neg (by omega)]

set_option maxRecDepth 100000 in
set_option linter.unusedSimpArgs false in
set_option linter.unusedVariables false in
set_option maxHeartbeats 4000000 in
theorem rcmp_any (A B : Option Addr) (a b : List Int) (na nb ca cb : Nat) (hna : na = a.length) (hnb : nb = b.length) (hn : na ≤ 1000000) (hn2 : nb ≤ 1000000) (hda : DigL a) (hdb : DigL b) (ta : TrimL a) (tb : TrimL b) (w : World) (hA : MRd w w.heap.size A a) (hB : MRd w w.heap.size B b) :
    Calls Tryz.prog 61 #[.slice A na ca, .slice B nb cb] w (Ret (.int .i64 (sgn (valL a - valL b))) w) := by
  rcases Nat.lt_trichotomy na nb with h | rfl | h
  · have e : sgn (valL a - valL b) = -1 := by
      have := valL_lt_len hda hdb tb (by omega)
      unfold sgn
      rw [if_pos (by omega)]
    rw [e]
    clear hA hB hda hdb ta tb hna hnb e
    have g1 : ((na : Int) != (nb : Int)) = true := bne_iff_ne.2 (by omega)
    have g2 : decide ((na : Int) < (nb : Int)) = true := decide_eq_true (by omega)
    have g3 : (na == nb) = false := beq_eq_false_iff_ne.2 (by omega)
    have g4 : ¬ (na = nb) := by omega
    go_enter Tryz.func61, Tryz.ntmps61
    go_wp2_with fail
    go_ret
    exact ⟨rfl, Below.refl _ w⟩
  · clear ta tb
    have g1 : ((na : Int) != (na : Int)) = false := by simp
    have HA := Lib.hid hA
    have HB := Lib.hid hB
    have HNA := Lib.hid hna
    have HNB := Lib.hid hnb
    have HDA := Lib.hid hda
    have HDB := Lib.hid hdb
    clear hA hB hna hnb hda hdb
    have hw0 : wrap64 ((na : Int) - 1) = (na : Int) - 1 := wrap_in _ (by omega)
    go_enter Tryz.func61, Tryz.ntmps61
    go_wp2_with fail
    go_loopw [5] (fun i wr => ∃ k : Nat, k ≤ na ∧ i = .int .i64 ((k : Int) - 1) ∧ SameFrom na a b k ∧ Below w.heap.size w wr) (fun i _ => (intOf i + 1).toNat)
    case atStart => exact ⟨na, Nat.le_refl _, rfl, fun i h1 h2 => by omega, Below.refl _ _⟩
    case round =>
      obtain ⟨k, hk, rfl, hs, hW⟩ := hrel
      have HS := Lib.hid hs
      clear hs
      rcases Nat.eq_zero_or_pos k with rfl | h0
      · have HE := Lib.hid (sgn_eq HNA.out HNB.out HS.out)
        have g0 : decide ((0 : Int) ≤ -1) = false := by decide
        rw [show ((0 : Nat) : Int) - 1 = -1 from rfl]
        go_wp2_with fail
        go_ret
        exact ⟨by rw [HE.out]; rfl, hW⟩
      · obtain ⟨s, rfl⟩ : ∃ s, k = s + 1 := ⟨k - 1, by omega⟩
        have hs1 : ((s + 1 : Nat) : Int) - 1 = (s : Int) := by omega
        rw [hs1]
        have g0 : decide ((0 : Int) ≤ (s : Int)) = true := decide_eq_true (by omega)
        have hw1 : wrap64 ((s : Int) - 1) = (s : Int) - 1 := wrap_in _ (by omega)
        have hsn : s < na := by omega
        obtain ⟨b1, o1, rfl, hbl1, hcell1⟩ := (HA.out.below hW).at_ (k := s) (by rw [← HNA.out]; omega)
        obtain ⟨b2, o2, rfl, hbl2, hcell2⟩ := (HB.out.below hW).at_ (k := s) (by rw [← HNB.out]; omega)
        obtain ⟨x, hx⟩ : ∃ x, x = dg a s := ⟨_, rfl⟩
        obtain ⟨y, hy⟩ : ∃ y, y = dg b s := ⟨_, rfl⟩
        rw [← hx] at hcell1
        rw [← hy] at hcell2
        have HX := Lib.hid hx
        have HY := Lib.hid hy
        clear hx hy
        rcases Int.lt_trichotomy x y with h | h | h
        · have g2 : decide (x < y) = true := decide_eq_true h
          have HE := Lib.hid (sgn_lt HDA.out HDB.out HNA.out HNB.out hsn HS.out (by rw [← HX.out, ← HY.out]; exact h))
          clear h
          go_wp2_with fail
          go_quiet (fail)
          go_wp2
          go_ret
          exact ⟨by rw [HE.out]; rfl, by first | exact below_drewN hW _ | exact below_drewN (below_drewN hW _) _⟩
        · have g2 : decide (x < y) = false := decide_eq_false (by omega)
          have g3 : decide (y < x) = false := decide_eq_false (by omega)
          have HE := Lib.hid (show SameFrom na a b s from fun i h1 h2 => by
            rcases Nat.lt_or_ge s i with h3 | h3
            · exact HS.out i h3 h2
            · obtain rfl : i = s := by omega
              rw [← HX.out, ← HY.out]; exact h)
          clear h
          go_wp2_with fail
          go_quiet (fail)
          go_wp2_with fail
          go_quiet (fail)
          go_wp2_with fail
          go_roundw
          case rel => exact ⟨s, by omega, rfl, HE.out, below_drewN hW _⟩
          case measure => simp [intOf]; try omega
        · have g2 : decide (x < y) = false := decide_eq_false (by omega)
          have g3 : decide (y < x) = true := decide_eq_true h
          have HE := Lib.hid (sgn_gt HDA.out HDB.out HNA.out HNB.out hsn HS.out (by rw [← HX.out, ← HY.out]; exact h))
          clear h
          go_wp2_with fail
          go_quiet (fail)
          go_wp2_with fail
          go_quiet (fail)
          go_wp2
          go_ret
          exact ⟨by rw [HE.out]; rfl, by first | exact below_drewN hW _ | exact below_drewN (below_drewN hW _) _⟩
  · have e : sgn (valL a - valL b) = 1 := by
      have := valL_lt_len hdb hda ta (by omega)
      unfold sgn
      rw [if_neg (by omega), if_pos (by omega)]
    rw [e]
    clear hA hB hda hdb ta tb hna hnb e
    have g1 : ((na : Int) != (nb : Int)) = true := bne_iff_ne.2 (by omega)
    have g2 : decide ((na : Int) < (nb : Int)) = false := decide_eq_false (by omega)
    have g3 : (na == nb) = false := beq_eq_false_iff_ne.2 (by omega)
    have g4 : ¬ (na = nb) := by omega
    go_enter Tryz.func61, Tryz.ntmps61
    go_wp2_with fail
    go_ret
    exact ⟨rfl, Below.refl _ w⟩
end Go.Proofs.YtkkcbkfpaoldmaaGreatDoor

/- Walk: podiumref09.of of digits that are few. -/
namespace Go.Proofs.YtkkcbkfpaoldmaaGreatDoor
open Go Go.RowKit

theorem results_row_tmp {P : Program} {fn : Func} {p q : Tmp} {ty : TypeId} (h : fn.results = #[.cell p ty, .tmp q]) (tmps : Array Value) (w : World) (g : Nat) (t : TypeId) (cs : Array Value) (fr : Nat × Nat) (d : TypeDesc) (u : Value)
    (hp : tmps.getD p undef = .pointer (some ⟨g, 0, none⟩)) (hq : tmps.getD q undef = u) (hg : w.heap[g]? = some (.cells cs t fr))
    (hu : P.underlying ty = some d) (hd : (match d with | .struct _ | .array _ _ => true | _ => false) = true) (hi : (P.info? ty).map (·.size) = some cs.size) :
    (results fn tmps).run P w = .ok (.tuple #[.agg cs, u]) w := by
  have hp' : tmps[p]?.getD undef = .pointer (some ⟨g, 0, none⟩) := by simpa using hp
  have hq' : tmps[q]?.getD undef = u := by simpa using hq
  simp [results, h, hp', hq', asAddr, run_loadVar_row w g t ty cs fr d hg hu hd hi]
set_option maxRecDepth 100000 in
set_option linter.unusedSimpArgs false in
set_option linter.unusedVariables false in
set_option maxHeartbeats 2000000 in
theorem rof_ok (A : Option Addr) (l : List Int) (n c : Nat) (hn : n = l.length) (hc : n ≤ c) (hc2 : c ≤ 9223372036854775807) (hn2 : n ≤ 4611686018427387903) (hm : tlen l n ≤ 2048) (w : World) (hR : MRd w w.heap.size A l) :
    Calls Tryz.prog 60 #[.bool false, .slice A n c] w (Ret (.tuple #[.agg #[.bool false, .slice A (tlen l n) c], .int .i64 0]) w) := by
  have HT := Lib.hid (fun W (hb : Below w.heap.size w W) => rtrim_any A l n c hn hc hc2 hn2 W ((hR.below hb).more hb.size))
  obtain ⟨m, hmm⟩ : ∃ m, m = tlen l n := ⟨_, rfl⟩
  rw [← hmm] at HT hm ⊢
  have g1 : decide ((2048 : Int) < (m : Int)) = false := decide_eq_false (by omega)
  clear hR hn hc hc2 hmm
  go_enter Tryz.func60, Tryz.ntmps60
  go_wp2_with fail
  refine (HT.out _ ((Below.refl _ w).alloc (Nat.le_refl _) _)).mono ?_
  rintro e w1 ⟨rfl, hb1⟩
  have bz := (Blk.new w 27 #[.bool false, .slice none 0 0]).below hb1 (by simp)
  have hB1 : Below w.heap.size w w1 := ((Below.refl _ w).alloc (Nat.le_refl _) _).trans (hb1.mono (by simp))
  clear hb1
  go_wp2_with (first
    | (refine store_big rfl _ _ rfl bz false A m c rfl rfl rfl ?_; intro w8 hD8 hO8 hz8)
    | (refine wpList_skip (by rfl) ?_))
  refine bodyPost_ret (results_row_tmp rfl _ _ w.heap.size 27 _ (0, 0) _ _ rfl rfl hD8 Tryz.underlying27 rfl bigSize) rfl ?_
  exact ⟨rfl, hB1.trans (hO8.toBelow hB1.size (Nat.le_refl _))⟩
end Go.Proofs.YtkkcbkfpaoldmaaGreatDoor

/- Walk: podiumref09.Check of any integer. -/
namespace Go.Proofs.YtkkcbkfpaoldmaaGreatDoor
open Go Go.RowKit

/-- An integer that is valid. -/
def Ck9 (neg : Bool) (l : List Int) : Prop := l.length ≤ 2048 ∧ (l.length = 0 → neg = false) ∧ TrimL l ∧ DigL l
/-- What a check answers: 0, or the error. -/
def CkPost (P : Prop) (er : Int) (w : World) (e : Ending) (w' : World) : Prop := ∃ r : Int, e = .returned (.int .i64 r) ∧ ((r = 0 ∧ P) ∨ (r = er ∧ ¬ P)) ∧ Below w.heap.size w w'
set_option maxRecDepth 100000 in
set_option linter.unusedSimpArgs false in
set_option linter.unusedVariables false in
set_option maxHeartbeats 4000000 in
theorem rCheck9_any (neg : Bool) (A : Option Addr) (n c : Nat) (l : List Int) (hn : n = l.length) (hn2 : n ≤ 4611686018427387903) (w : World) (hR : MRd w w.heap.size A l) : Calls Tryz.prog 27 #[bigV neg A n c] w (CkPost (Ck9 neg l) 90 w) := by
  unfold bigV
  by_cases h1 : 2048 < n
  · have g1 : decide ((2048 : Int) < (n : Int)) = true := decide_eq_true (by omega)
    have g1n : decide (2048 < n) = true := decide_eq_true h1
    have HP := Lib.hid (show ¬ Ck9 neg l from fun h => by have := h.1; omega)
    clear hR hn
    go_enter Tryz.func27, Tryz.ntmps27
    go_wp2_with fail
    go_ret
    exact ⟨90, rfl, .inr ⟨rfl, HP.out⟩, (Below.refl _ w).alloc (Nat.le_refl _) _⟩
  have g1 : decide ((2048 : Int) < (n : Int)) = false := decide_eq_false (by omega)
  have g1n : decide (2048 < n) = false := decide_eq_false h1
  rcases Nat.eq_zero_or_pos n with h0 | h0
  · subst h0
    cases neg with
    | true =>
      have HP := Lib.hid (show ¬ Ck9 true l from fun h => by have := h.2.1 (by omega); cases this)
      clear hR hn
      go_enter Tryz.func27, Tryz.ntmps27
      go_wp2_with fail
      go_ret
      exact ⟨90, rfl, .inr ⟨rfl, HP.out⟩, (Below.refl _ w).alloc (Nat.le_refl _) _⟩
    | false =>
      have HP := Lib.hid (show Ck9 false l from ⟨by omega, fun _ => rfl, fun h => by omega, fun x hx => by
        rw [List.length_eq_zero_iff.1 hn.symm] at hx; cases hx⟩)
      clear hR hn
      go_enter Tryz.func27, Tryz.ntmps27
      go_wp2_with fail
      go_loopw [4] (fun i wr => i = .int .i64 0 ∧ wr = w.alloc (.cells #[.bool false, .slice A 0 c] 27)) (fun i _ => 0)
      case atStart => exact ⟨rfl, rfl⟩
      case round =>
        obtain ⟨rfl, rfl⟩ := hrel
        go_wp2_with fail
        go_ret
        exact ⟨0, rfl, .inl ⟨rfl, HP.out⟩, (Below.refl _ w).alloc (Nat.le_refl _) _⟩
  · obtain ⟨s, hs⟩ : ∃ s, n = s + 1 := ⟨n - 1, by omega⟩
    have g2 : decide ((0 : Int) < (n : Int)) = true := decide_eq_true (by omega)
    have g3 : ((n : Int) == 0) = false := beq_eq_false_iff_ne.2 (by omega)
    have g3n : (n == 0) = false := beq_eq_false_iff_ne.2 (by omega)
    have hs1 : (n : Int) - 1 = (s : Int) := by omega
    have hs2 : wrap64 (s : Int) = (s : Int) := wrap_in _ (by omega)
    have hsn : s < n := by omega
    have hpos : 0 < n := h0
    have g2n : decide (0 < n) = true := decide_eq_true h0
    have HM := Lib.hid hR
    have HN := Lib.hid hn
    have HS := Lib.hid hs
    obtain ⟨b, off, rfl, hbl, hcell⟩ := (hR.below ((Below.refl _ w).alloc (Nat.le_refl _) (.cells #[.bool neg, .slice A n c] 27))).at_ (k := s) (by rw [← hn]; omega)
    obtain ⟨x, hx⟩ : ∃ x, x = dg l s := ⟨_, rfl⟩
    rw [← hx] at hcell
    have HX := Lib.hid hx
    by_cases hx0 : x = 0
    · have g4 : (x == 0) = true := beq_iff_eq.2 hx0
      have HP := Lib.hid (show ¬ Ck9 neg l from fun h => by
        have := h.2.2.1 (by omega)
        rw [← hn, hs, Nat.add_sub_cancel, ← hx] at this
        exact this hx0)
      clear hR hn hx hx0 hs h0
      go_enter Tryz.func27, Tryz.ntmps27
      go_wp2_with fail
      go_ret
      exact ⟨90, rfl, .inr ⟨rfl, HP.out⟩, (Below.refl _ w).alloc (Nat.le_refl _) _⟩
    · have g4 : (x == 0) = false := beq_eq_false_iff_ne.2 hx0
      have HP := Lib.hid (show TrimL l from fun h => by
        rw [← hn, hs, Nat.add_sub_cancel, ← hx]
        exact hx0)
      clear hR hn hx hx0 hs h0
      go_enter Tryz.func27, Tryz.ntmps27
      go_wp2_with fail
      go_loopw [4] (fun i wr => ∃ k : Nat, k ≤ n ∧ i = .int .i64 k ∧ (∀ j, j < k → 0 ≤ dg l j ∧ dg l j < 1073741824) ∧ wr = w.alloc (.cells #[.bool neg, .slice (some ⟨b, off, none⟩) n c] 27)) (fun i _ => n - (intOf i).toNat)
      case atStart => exact ⟨0, Nat.zero_le _, rfl, fun j h => by omega, rfl⟩
      case round =>
        clear hcell
        obtain ⟨k, hk, rfl, hd, rfl⟩ := hrel
        have HD := Lib.hid hd
        clear hd
        rcases Nat.lt_or_ge k n with h5 | h5
        · have g5 : decide ((k : Int) < (n : Int)) = true := decide_eq_true (by omega)
          have g5n : decide (k < n) = true := decide_eq_true h5
          obtain ⟨b', off', e, hbl', hcell⟩ := (HM.out.below ((Below.refl _ w).alloc (Nat.le_refl _) (.cells #[.bool neg, .slice (some ⟨b, off, none⟩) n c] 27))).at_ (k := k) (by rw [← HN.out]; omega)
          simp only [Option.some.injEq, Addr.mk.injEq, and_true] at e
          obtain ⟨rfl, rfl⟩ := e
          obtain ⟨y, hy⟩ : ∃ y, y = dg l k := ⟨_, rfl⟩
          rw [← hy] at hcell
          have HY := Lib.hid hy
          clear hy
          by_cases c1 : y < 0
          · have g6 : decide (y < 0) = true := decide_eq_true c1
            have HNP := Lib.hid (show ¬ Ck9 neg l from fun h => by
              have := h.2.2.2 _ (dg_mem (l := l) (i := k) (by rw [← HN.out]; exact h5))
              rw [← HY.out] at this; omega)
            clear c1
            go_wp2_with fail
            go_ret
            exact ⟨90, rfl, .inr ⟨rfl, HNP.out⟩, (Below.refl _ w).alloc (Nat.le_refl _) _⟩
          · have g6 : decide (y < 0) = false := decide_eq_false c1
            by_cases c2 : 1073741824 ≤ y
            · have g7 : decide ((1073741824 : Int) ≤ y) = true := decide_eq_true c2
              have HNP := Lib.hid (show ¬ Ck9 neg l from fun h => by
                have := h.2.2.2 _ (dg_mem (l := l) (i := k) (by rw [← HN.out]; exact h5))
                rw [← HY.out] at this; omega)
              clear c1 c2
              go_wp2_with fail
              go_ret
              exact ⟨90, rfl, .inr ⟨rfl, HNP.out⟩, (Below.refl _ w).alloc (Nat.le_refl _) _⟩
            · have g7 : decide ((1073741824 : Int) ≤ y) = false := decide_eq_false c2
              have HD2 := Lib.hid (show ∀ j, j < k + 1 → 0 ≤ dg l j ∧ dg l j < 1073741824 from fun j hj => by
                rcases Nat.lt_or_ge j k with h6 | h6
                · exact HD.out j h6
                · obtain rfl : j = k := by omega
                  rw [← HY.out]; omega)
              clear c1 c2
              go_wp2_with fail
              go_roundw
              case rel => exact ⟨k + 1, by omega, by go_num, HD2.out, by first | trivial | rfl⟩
              case measure => simp [intOf]; omega
        · have g5 : decide ((k : Int) < (n : Int)) = false := decide_eq_false (by omega)
          have g5n : decide (k < n) = false := decide_eq_false (by omega)
          have HPP := Lib.hid (show Ck9 neg l from ⟨by rw [← HN.out]; omega, fun h => by have := HN.out; omega, HP.out, DigL.of fun j hj => HD.out j (by have := HN.out; omega)⟩)
          go_wp2_with fail
          go_ret
          exact ⟨0, rfl, .inl ⟨rfl, HPP.out⟩, (Below.refl _ w).alloc (Nat.le_refl _) _⟩
end Go.Proofs.YtkkcbkfpaoldmaaGreatDoor

/- Walks: podiumref09.two, Make (of small numbers), Cmp. -/
namespace Go.Proofs.YtkkcbkfpaoldmaaGreatDoor
open Go Go.RowKit

theorem BigOk.ck {w : World} {B : Nat} {neg : Bool} {A : Option Addr} {n c : Nat} {l : List Int} (h : BigOk w B neg A n c l) : Ck9 neg l := ⟨by have := h.few; have := h.len; omega, fun e => h.sign (by rw [h.len]; exact e), h.trim, h.dig⟩
theorem rCheck9_ok (neg : Bool) (A : Option Addr) (n c : Nat) (l : List Int) (w : World) (h : BigOk w w.heap.size neg A n c l) : Calls Tryz.prog 27 #[.agg #[.bool neg, .slice A n c]] w (Ret (.int .i64 0) w) := by
  refine (rCheck9_any neg A n c l h.len (by have := h.few; omega) w h.rd).mono ?_
  rintro e w' ⟨r, rfl, hr | hr, hb⟩
  · rw [hr.1]; exact ⟨rfl, hb⟩
  · exact absurd h.ck hr.2
set_option maxRecDepth 100000 in
set_option linter.unusedSimpArgs false in
set_option linter.unusedVariables false in
set_option maxHeartbeats 4000000 in
theorem rtwo9_ok (n1 n2 : Bool) (A1 A2 : Option Addr) (l1 k1 l2 k2 : Nat) (a b : List Int) (w : World) (ha : BigOk w w.heap.size n1 A1 l1 k1 a) (hb : BigOk w w.heap.size n2 A2 l2 k2 b) :
    Calls Tryz.prog 58 #[.agg #[.bool n1, .slice A1 l1 k1], .agg #[.bool n2, .slice A2 l2 k2]] w (Ret (.int .i64 0) w) := by
  have HA := Lib.hid (fun W (h : Below w.heap.size w W) => rCheck9_ok n1 A1 l1 k1 a W ((ha.below h).more h.size))
  have HB := Lib.hid (fun W (h : Below w.heap.size w W) => rCheck9_ok n2 A2 l2 k2 b W ((hb.below h).more h.size))
  clear ha hb
  go_enter Tryz.func58, Tryz.ntmps58
  go_wp2_with fail
  refine calls_gen (fun W => Blk W (w.heap.size + 1) 27 #[.bool n2, .slice A2 l2 k2] ∧ Below w.heap.size w W) ⟨Blk.new' _ _ _ (by simp), ((Below.refl _ w).alloc (Nat.le_refl _) _).alloc (by simp) _⟩ (fun W0 ⟨b1, hB0⟩ => ?_)
  refine (HA.out W0 hB0).mono ?_
  rintro e w1 ⟨rfl, hb1⟩
  have d1 := b1.below hb1 b1.lt
  have hB1 := hB0.trans (hb1.mono hB0.size)
  have y0 : w1.cell? ⟨w.heap.size + 1, 0, none⟩ = some (.bool n2) := d1.cell 0
  have y1 : w1.cell? ⟨w.heap.size + 1, 1, none⟩ = some (.slice A2 l2 k2) := d1.cell 1
  clear b1 d1 hB0 hb1
  go_wp2_with fail
  refine (HB.out w1 hB1).mono ?_
  rintro e w2 ⟨rfl, hb2⟩
  go_wp2_with fail
  go_ret
  exact ⟨rfl, hB1.trans (hb2.mono hB1.size)⟩
set_option maxRecDepth 100000 in
set_option linter.unusedSimpArgs false in
set_option linter.unusedVariables false in
set_option maxHeartbeats 4000000 in
theorem rMake9_ok (n : Nat) (h : n < 1073741824) (w : World) : Calls Tryz.prog 31 #[.int .i64 n] w (BigPost n w) := by
  have hn0 : decide ((n : Int) < 0) = false := decide_eq_false (by omega)
  go_enter Tryz.func31, Tryz.ntmps31
  go_wp2_with fail
  obtain ⟨W0, hW0⟩ : ∃ W, W = (w.alloc (.cells #[.bool false, .slice none 0 0] 27)).alloc (.cells #[] 3) := ⟨_, rfl⟩
  have bz0 : Blk W0 w.heap.size 27 #[.bool false, .slice none 0 0] := by rw [hW0]; exact (Blk.new w _ _).alloc _
  have hO0 : IOwn W0 (w.heap.size + 1) (.slice (some ⟨w.heap.size + 1, 0, none⟩) 0 0) [] := by
    rw [hW0]
    exact ⟨rfl, .inr ⟨w.heap.size + 1, 0, #[], rfl, Nat.le_refl _, by
      have h := heap_alloc_new (w.alloc (.cells #[.bool false, .slice none 0 0] 27)) (.cells #[] 3)
      simpa using h, Nat.le_refl _, by simp only [maxLen]; omega, rfl, rfl⟩⟩
  have hB0 : Below w.heap.size w W0 := by rw [hW0]; exact ((Below.refl _ w).alloc (Nat.le_refl _) _).alloc (by simp) _
  rw [← hW0]
  clear hW0
  go_loopw [3, 4] (fun mv uv wr => ∃ (u : Nat) (l : List Int), uv = .int .i64 u ∧ ((u = n ∧ l = [] ∧ 0 < n) ∨ (u = 0 ∧ l = natL n)) ∧ IOwn wr (w.heap.size + 1) mv l ∧ Blk wr w.heap.size 27 #[.bool false, .slice none 0 0] ∧ Below w.heap.size w wr) (fun _ uv _ => (intOf uv).toNat)
  case atStart =>
    refine ⟨n, [], rfl, ?_, hO0, bz0, hB0⟩
    rcases Nat.eq_zero_or_pos n with h0 | h0
    · exact .inr ⟨h0, by subst h0; rfl⟩
    · exact .inl ⟨rfl, rfl, h0⟩
  case round =>
    clear hO0 bz0 hB0
    obtain ⟨u, l, rfl, hul, hO, bz, hB⟩ := hrel
    rcases hul with ⟨rfl, rfl, hpos⟩ | ⟨rfl, rfl⟩
    · have g1 : ((u : Int) != 0) = true := bne_iff_ne.2 (by omega)
      have g1n : ((u : Int) == 0) = false := beq_eq_false_iff_ne.2 (by omega)
      have g1m : ¬ (u = 0) := by omega
      have g2 : Int.tmod (u : Int) 1073741824 = (u : Int) := by rw [Int.tmod_eq_emod_of_nonneg (by omega)]; omega
      have g3 : Int.tdiv (u : Int) 1073741824 = ((0 : Nat) : Int) := by rw [Int.tdiv_eq_ediv_of_nonneg (by omega)]; omega
      have g4 : wrap64 (u : Int) = (u : Int) := wrap_in _ (by omega)
      have HE := Lib.hid (show natL u = [(u : Int)] by rw [natL, if_neg (by omega)])
      have hsz := hB.size
      have hbl := bz.lt
      have HOA := Lib.hid (IOwn.alloc hO (.cells #[.int .i64 (u : Int)] 3))
      have hbs : w.heap.size + 1 ≤ (wr.alloc (.cells #[.int .i64 (u : Int)] 3)).heap.size := by simp only [World.size_alloc]; omega
      have HLO := Lib.hid (fun g e => World.ownsRow.lt hO g e)
      have HBZ := Lib.hid bz
      have HB := Lib.hid hB
      clear hO bz hB
      go_wp2_with (at_builtin; refine app_int rfl _ _ rfl (w.heap.size + 1) u3 [] rfl HOA.out (u : Int) (Blk.new _ _ _) rfl (by simp) hbs ?_; intro v7 w7 hown7 hg7)
      go_roundw
      case rel =>
        have hg0 := hg7.alloc_first
        refine ⟨0, natL u, by go_num, .inr ⟨rfl, rfl⟩, by rw [HE.out]; exact hown7, HBZ.out.grown hg0.1 (fun e => by have := (HLO.out _ e.symm).1; omega), HB.out.trans (hg0.below hsz fun g e => by have := (HLO.out g e).1; omega)⟩
      case measure => simp [intOf]; omega
    · obtain ⟨A, c, rfl, hc, hc2, -⟩ := hO.shape
      have hrd := hO.mrd rfl
      have hll := natL_len n
      obtain ⟨m, hm⟩ : ∃ m, m = (natL n).length := ⟨_, rfl⟩
      have HM := Lib.hid hm
      have HO := Lib.hid hO
      have HB := Lib.hid hB
      have HBZ := Lib.hid bz
      rw [← hm] at hc hll ⊢
      clear hO hB bz hm hrd
      go_wp2_with (refine store_big rfl _ _ rfl HBZ.out false A m c rfl rfl rfl ?_; intro w8 hD8 hO8 hz8)
      refine bodyPost_ret (results_cell_row rfl _ _ w.heap.size 27 _ (0, 0) _ rfl hD8 Tryz.underlying27 rfl bigSize) rfl ?_
      have hO9 : IOwn w8 (w.heap.size + 1) (.slice A (natL n).length c) (natL n) := World.ownsRow.kept HO.out hO8 (by
        cases e : (Value.slice A (natL n).length c).ownBlock with
        | none => exact .inl rfl
        | some g => exact .inr fun e2 => by have h3 := (World.ownsRow.lt HO.out g e).1; cases e2; omega)
      rw [HM.out]
      refine ⟨natL n, A, c, rfl, natL_val n, ⟨rfl, by rw [← HM.out]; exact hc, hc2, fun h => ?_, natL_dig n h, natL_trim n, by rw [← HM.out]; omega, fun _ => rfl, hO9.mrd rfl⟩, HB.out.trans (hO8.toBelow HB.out.size (Nat.le_refl _))⟩
      subst h
      rcases hO9.2 with ⟨e, -⟩ | ⟨g, cap, cur, e, -⟩
      · simp only [Value.slice.injEq] at e
        exact e.2.2
      · simp only [Value.slice.injEq] at e
        exact absurd e.1 (by simp)
set_option maxRecDepth 100000 in
set_option linter.unusedSimpArgs false in
set_option linter.unusedVariables false in
set_option maxHeartbeats 4000000 in
theorem rCmp9_any (neg : Bool) (A1 A2 : Option Addr) (l1 k1 l2 k2 : Nat) (a b : List Int) (w : World) (ha : BigOk w w.heap.size neg A1 l1 k1 a) (hb : BigOk w w.heap.size false A2 l2 k2 b) :
    Calls Tryz.prog 30 #[.agg #[.bool neg, .slice A1 l1 k1], .agg #[.bool false, .slice A2 l2 k2]] w (Ret (.tuple #[.int .i64 (if neg then -1 else sgn (valL a - valL b)), .int .i64 0]) w) := by
  have HC := Lib.hid (fun W (h : Below w.heap.size w W) => rtwo9_ok neg false A1 A2 l1 k1 l2 k2 a b W ((ha.below h).more h.size) ((hb.below h).more h.size))
  have HP := Lib.hid (fun W (h : Below w.heap.size w W) => rcmp_any A1 A2 a b l1 l2 k1 k2 ha.len hb.len (by have := ha.few; omega) (by have := hb.few; omega) ha.dig hb.dig ha.trim hb.trim W ((ha.below h).more h.size).rd ((hb.below h).more h.size).rd)
  obtain ⟨S, hS⟩ : ∃ S, S = sgn (valL a - valL b) := ⟨_, rfl⟩
  rw [← hS] at HP ⊢
  clear ha hb hS
  cases neg with
  | true =>
    go_enter Tryz.func30, Tryz.ntmps30
    go_wp2_with fail
    refine calls_gen (fun W => Blk W w.heap.size 27 #[.bool true, .slice A1 l1 k1] ∧ Blk W (w.heap.size + 1) 27 #[.bool false, .slice A2 l2 k2] ∧ Below w.heap.size w W) ⟨(Blk.new _ _ _).alloc _, Blk.new' _ _ _ (by simp), ((Below.refl _ w).alloc (Nat.le_refl _) _).alloc (by simp) _⟩ (fun W0 ⟨b0, b1, hB0⟩ => ?_)
    refine (HC.out W0 hB0).mono ?_
    rintro e w1 ⟨rfl, hb1⟩
    have d0 := b0.below hb1 b0.lt
    have d1 := b1.below hb1 b1.lt
    have hB1 := hB0.trans (hb1.mono hB0.size)
    have x0 : w1.cell? ⟨w.heap.size, 0, none⟩ = some (.bool true) := d0.cell 0
    have x1 : w1.cell? ⟨w.heap.size, 1, none⟩ = some (.slice A1 l1 k1) := d0.cell 1
    have y0 : w1.cell? ⟨w.heap.size + 1, 0, none⟩ = some (.bool false) := d1.cell 0
    have y1 : w1.cell? ⟨w.heap.size + 1, 1, none⟩ = some (.slice A2 l2 k2) := d1.cell 1
    clear b0 b1 d0 d1 hB0 hb1
    go_wp2_with fail
    go_ret2
    exact ⟨rfl, hB1⟩
  | false =>
    go_enter Tryz.func30, Tryz.ntmps30
    go_wp2_with fail
    refine calls_gen (fun W => Blk W w.heap.size 27 #[.bool false, .slice A1 l1 k1] ∧ Blk W (w.heap.size + 1) 27 #[.bool false, .slice A2 l2 k2] ∧ Below w.heap.size w W) ⟨(Blk.new _ _ _).alloc _, Blk.new' _ _ _ (by simp), ((Below.refl _ w).alloc (Nat.le_refl _) _).alloc (by simp) _⟩ (fun W0 ⟨b0, b1, hB0⟩ => ?_)
    refine (HC.out W0 hB0).mono ?_
    rintro e w1 ⟨rfl, hb1⟩
    have d0 := b0.below hb1 b0.lt
    have d1 := b1.below hb1 b1.lt
    have hB1 := hB0.trans (hb1.mono hB0.size)
    have x0 : w1.cell? ⟨w.heap.size, 0, none⟩ = some (.bool false) := d0.cell 0
    have x1 : w1.cell? ⟨w.heap.size, 1, none⟩ = some (.slice A1 l1 k1) := d0.cell 1
    have y0 : w1.cell? ⟨w.heap.size + 1, 0, none⟩ = some (.bool false) := d1.cell 0
    have y1 : w1.cell? ⟨w.heap.size + 1, 1, none⟩ = some (.slice A2 l2 k2) := d1.cell 1
    clear b0 b1 d0 d1 hB0 hb1
    go_wp2_with fail
    refine (HP.out w1 hB1).mono ?_
    rintro e w2 ⟨rfl, hb2⟩
    go_wp2_with fail
    go_ret2
    exact ⟨rfl, hB1.trans (hb2.mono hB1.size)⟩
end Go.Proofs.YtkkcbkfpaoldmaaGreatDoor

/- Walk: podiumref09.times. -/
namespace Go.Proofs.YtkkcbkfpaoldmaaGreatDoor
open Go Go.RowKit

section
variable {ops : Array Oper} {rest : List Oper} {o : Oper} {a : Act} {Q : Exit → Act → World → Prop}
theorem make_ints (hg : o.guard = none) (l : Operand) (hop : o.op = Op.makeSlice 25 l l) (base : Nat) {w : World} (n : Nat) (hl : a.eval l = .int .i64 n) (hn : n ≤ 1048576) (hb : base ≤ w.heap.size)
    (hK : ∀ w', IOwn w' base (.slice (some ⟨w.heap.size, 0, none⟩) n n) (List.replicate n 0) → w.grownBy w' none → wpList Tryz.prog ops Q rest (a.put o.dst (.slice (some ⟨w.heap.size, 0, none⟩) n n)) w') :
    wpList Tryz.prog ops Q (o :: rest) a w :=
  wpList_make_full w hg l l 25 hop base 3 iInfo (.int .i64 0) 1 Tryz.underlying25 iInfo_eq iInfo_zero iInfo_size .i64 .i64 n n n hl hl rfl rfl (by rw [iInfo_bytes]; omega) (by simp only [maxLen]; omega) hb
    fun w' h1 h2 => hK w' (by
      show World.ownsRow w' base 3 1 _ (List.replicate n (0 : Int)).length (icells (List.replicate n 0))
      rw [List.length_replicate, ← madeCells_int]
      exact h1) h2
end
set_option maxRecDepth 100000 in
set_option linter.unusedSimpArgs false in
set_option linter.unusedVariables false in
set_option maxHeartbeats 8000000 in
theorem rtimes_any (A B : Option Addr) (a b : List Int) (la lb ca cb : Nat) (hla : la = a.length) (hlb : lb = b.length) (ha : DigL a) (hb : DigL b) (h1 : la ≤ 5000) (h2 : lb ≤ 5000) (w : World) (hA : MRd w w.heap.size A a) (hB : MRd w w.heap.size B b) :
    Calls Tryz.prog 87 #[.slice A la ca, .slice B lb cb] w (DigPost (valL a * valL b) 10000 w) := by
  obtain ⟨N, hN⟩ : ∃ N, N = la + lb := ⟨_, rfl⟩
  have hNN : (la : Int) + (lb : Int) = (N : Int) := by omega
  have HA := Lib.hid hA
  have HB := Lib.hid hB
  have HLA := Lib.hid hla
  have HLB := Lib.hid hlb
  have HDA := Lib.hid ha
  have HDB := Lib.hid hb
  have HN := Lib.hid hN
  have hN1 : N ≤ 10000 := by omega
  clear hA hB hla hlb ha hb hN
  go_enter Tryz.func87, Tryz.ntmps87
  go_wp2_with (refine make_ints rfl _ rfl w.heap.size N rfl (by omega) (Nat.le_refl _) ?_; intro w1 hown1 hg1)
  obtain ⟨g, hg⟩ : ∃ g, g = w.heap.size := ⟨_, rfl⟩
  have hB1 : Below w.heap.size w w1 := ⟨hg1.os, hg1.tape, hg1.output, hg1.size, fun i hi => hg1.block i hi (by simp)⟩
  rw [← hg] at hown1 ⊢
  have HG := Lib.hid hg
  clear hg1 hg
  go_wp2_with fail
  go_loopw [6] (fun jj wr => ∃ (i : Nat) (L : List Int), i ≤ la ∧ jj = .int .i64 i ∧ IOwn wr g (.slice (some ⟨g, 0, none⟩) N N) L ∧ L.length = N ∧ DigL L ∧ (∀ j, i + lb ≤ j → dg L j = 0) ∧ dsum (dg L) N = dsum (dg a) i * valL b ∧ Below g w wr) (fun jj _ => la - (intOf jj).toNat)
  case atStart => exact ⟨0, List.replicate N 0, by omega, rfl, hown1, by simp, digL_zeros N, fun j _ => dg_zeros N j, by rw [dsum_zeros']; show (0 : Int) = 0 * _; omega, by rw [HG.out]; exact hB1⟩
  case round =>
    obtain ⟨i, L, hi, rfl, hO, hL, hD, hz, hs, hBr⟩ := hrel
    have HO := Lib.hid hO
    have HD := Lib.hid hD
    have HZ := Lib.hid hz
    have HS := Lib.hid hs
    have HBR := Lib.hid hBr
    clear hO hD hz hs hBr hown1 hB1
    by_cases hlt : i < la
    · obtain ⟨ba, oa, rfl, hba, hca⟩ := (HA.out.below (by rw [← HG.out]; exact HBR.out)).at_ (k := i) (by rw [← HLA.out]; exact hlt)
      obtain ⟨x, hx⟩ : ∃ x, x = dg a i := ⟨_, rfl⟩
      have hxr := HDA.out.digs (i + 1) i (by omega)
      rw [← hx] at hca hxr
      have HSX := Lib.hid (show dsum (dg a) (i + 1) * valL b = dsum (dg L) N + x * valL b * bp i by rw [dsum_succ, HS.out, ← hx]; grind)
      have HXX := Lib.hid hx
      clear hx
      · skip
        obtain ⟨S, hS⟩ : ∃ S, S = dsum (dg L) N := ⟨_, rfl⟩
        rw [← hS] at HSX
        have HSE := Lib.hid hS
        clear hS
        go_wp2_with fail
        go_loopw [8, 7] (fun kk ov wr => ∃ (k : Nat) (o : Int) (L2 : List Int), k ≤ lb ∧ kk = .int .i64 k ∧ ov = .int .i64 o ∧ (0 ≤ o ∧ o < 1073741824) ∧ IOwn wr g (.slice (some ⟨g, 0, none⟩) N N) L2 ∧ L2.length = N ∧ DigL L2 ∧ (∀ j, i + lb ≤ j → dg L2 j = 0) ∧ dsum (dg L2) N + o * bp (i + k) = S + x * dsum (dg b) k * bp i ∧ Below g w wr) (fun kk _ _ => lb - (intOf kk).toNat)
        case atStart => exact ⟨0, 0, L, by omega, rfl, rfl, by decide, HO.out, hL, HD.out, HZ.out, by rw [← HSE.out]; simp [dsum], HBR.out⟩
        case round =>
          clear HO HD HZ HS HBR hL HSE hca
          obtain ⟨k, o, L2, hk, rfl, rfl, hor, hO, hL, hD, hz, hs, hBr⟩ := hrel
          have HO := Lib.hid hO
          have HD := Lib.hid hD
          have HZ := Lib.hid hz
          have HS := Lib.hid hs
          have HBR := Lib.hid hBr
          clear hO hD hz hs hBr
          have hiN : i + lb < N := by have := HN.out; omega
          by_cases hlk : k < lb
          · obtain ⟨bb, ob, rfl, hbb, hcb⟩ := (HB.out.below (by rw [← HG.out]; exact HBR.out)).at_ (k := k) (by rw [← HLB.out]; exact hlk)
            obtain ⟨y, hy⟩ : ∃ y, y = dg b k := ⟨_, rfl⟩
            have hyr := HDB.out.digs (k + 1) k (by omega)
            obtain ⟨ba', oa', ea, -, hca'⟩ := (HA.out.below (by rw [← HG.out]; exact HBR.out)).at_ (k := i) (by rw [← HLA.out]; exact hlt)
            simp only [Option.some.injEq, Addr.mk.injEq, and_true] at ea
            obtain ⟨rfl, rfl⟩ := ea
            rw [← HXX.out] at hca'
            rw [← hy] at hcb hyr
            have HY := Lib.hid hy
            obtain ⟨p, hp⟩ : ∃ p, p = i + k := ⟨_, rfl⟩
            have hpN : p < N := by omega
            have hip : (i : Int) + (k : Int) = (p : Int) := by omega
            obtain ⟨m, hm⟩ : ∃ m, m = dg L2 p := ⟨_, rfl⟩
            have hmr := HD.out.digs (p + 1) p (by omega)
            have cm := HO.out.cellAt hL hpN
            have fm := HO.out.frozenAt hL p
            rw [show L2.getD p 0 = m from hm.symm] at cm
            rw [← hm] at hmr
            have hb9 := mul_bounds hxr hyr
            obtain ⟨P, hP⟩ : ∃ P, P = x * y := ⟨_, rfl⟩
            obtain ⟨Q, hQ⟩ : ∃ Q, Q = m + P := ⟨_, rfl⟩
            obtain ⟨s, hsd⟩ : ∃ s, s = Q + o := ⟨_, rfl⟩
            rw [← hP] at hb9
            have f1 : wrap64 (x * y) = P := by rw [← hP]; exact wrap_in _ (by omega)
            have f2 : wrap64 (m + P) = Q := by rw [← hQ]; exact wrap_in _ (by omega)
            have f3 : wrap64 (Q + o) = s := by rw [← hsd]; exact wrap_in _ (by omega)
            have hs0 : 0 ≤ s := by omega
            have f4 : Int.tmod s 1073741824 = s % 1073741824 := Int.tmod_eq_emod_of_nonneg hs0
            have hdr := emod_digit s
            have hor2 : 0 ≤ s / 1073741824 ∧ s / 1073741824 < 1073741824 := by omega
            have HROW := Lib.hid (show dsum (dg (L2.set p (s % 1073741824))) N + (s / 1073741824) * bp (i + (k + 1)) = S + x * dsum (dg b) (k + 1) * bp i by
              rw [dsum_succ, ← HY.out]
              refine mul_row (m := m) (ov := o) (D := dsum (dg L2) N) (by rw [hsd, hQ, hP]) ?_ HS.out
              rw [dsum_setL (by omega) hpN, ← hm, hp])
            obtain ⟨d, hd⟩ : ∃ d, d = s % 1073741824 := ⟨_, rfl⟩
            obtain ⟨o2, ho2⟩ : ∃ o2, o2 = s / 1073741824 := ⟨_, rfl⟩
            rw [← hd] at HROW f4 hdr
            rw [← ho2] at HROW hor2
            have f5 : Int.tdiv s 1073741824 = o2 := by rw [Int.tdiv_eq_ediv_of_nonneg hs0]; exact ho2.symm
            have HP9 := Lib.hid hp
            clear hy hp hm hP hQ hsd hd ho2 hb9 hs0
            go_wp2_with fail
            go_quiet (fail)
            go_wp2_with fail
            go_roundw
            case rel =>
              have hBD := below_drewN (Below.refl wr.heap.size wr) nq
              have HOD := IOwn.below HO.out hBD
              have hs2 := HOD.set hL p d
              refine ⟨k + 1, o2, L2.set p d, by omega, by go_num, rfl, hor2, hs2.1, by rw [List.length_set]; exact hL, HD.out.set p hdr, fun j hj => ?_, HROW.out, HOD.belowSet (HBR.out.trans (hBD.mono (by have h1 := HBR.out.size; have h2 := HG.out; omega))) (Nat.le_refl _)⟩
              rw [dg_set (by omega), if_neg (by have := HP9.out; omega)]
              exact HZ.out j hj
            case measure => simp [intOf]; omega
          · obtain rfl : k = lb := by omega
            obtain ⟨p, hp⟩ : ∃ p, p = i + k := ⟨_, rfl⟩
            have hpN : p < N := by omega
            have hip : (i : Int) + (k : Int) = (p : Int) := by omega
            have cm := HO.out.cellAt hL hpN
            have fm := HO.out.frozenAt hL p
            have HE := Lib.hid (show dsum (dg (L2.set p o)) N = dsum (dg a) (i + 1) * valL b by
              rw [dsum_setL (by omega) hpN, HZ.out p (by omega), HSX.out, hp, Int.sub_zero]
              have h := HS.out
              rw [HLB.out] at h
              have e : dsum (dg b) b.length = valL b := rfl
              rw [e, ← HLB.out] at h
              omega)
            have HP9 := Lib.hid hp
            clear hp
            go_wp2_with fail
            go_roundw
            case rel =>
              have hs2 := HO.out.set hL p o
              refine ⟨i + 1, L2.set p o, by omega, by go_num, hs2.1, by rw [List.length_set]; exact hL, HD.out.set p hor, fun j hj => ?_, HE.out, HO.out.belowSet HBR.out (Nat.le_refl _)⟩
              rw [dg_set (by omega), if_neg (by have := HP9.out; omega)]
              exact HZ.out j (by omega)
            case measure => simp [intOf]; omega
    · obtain rfl : i = la := by omega
      have hT := rtrim_any (some ⟨g, 0, none⟩) L N N hL.symm (Nat.le_refl _) (by omega) (by omega) wr (mrd_own HO.out hL)
      have HT := Lib.hid hT
      clear hT
      go_wp2_with fail
      refine HT.out.mono ?_
      rintro e w2 ⟨rfl, hb2⟩
      go_wp2_with fail
      go_ret
      have hlen := trimmed_len L
      rw [hL] at hlen
      refine ⟨trimmed L, some ⟨g, 0, none⟩, N, by rw [hlen]; rfl, by rw [hlen]; exact tlen_le _ _, hN1, fun h => (by cases h), trimmed_dig HD.out, trimmed_trim L, ?_, ?_, by rw [← HG.out]; exact HBR.out.trans (hb2.mono (by have := HO.out.lt g rfl; omega))⟩
      · rw [trimmed_val, valL, hL, HS.out, HLA.out]
        rfl
      · have h := (IOwn.below HO.out (hb2.mono (Nat.le_refl _))).cut hL (tlen_le L N)
        rw [← HG.out, hlen]
        rw [trimmed, hL]
        exact h
end Go.Proofs.YtkkcbkfpaoldmaaGreatDoor

/- Walk: podiumref09.less. -/
namespace Go.Proofs.YtkkcbkfpaoldmaaGreatDoor
open Go Go.RowKit

/-- Digits without zeros at the end that make v. -/
def RPost (v : Int) (w : World) (e : Ending) (w' : World) : Prop :=
  ∃ (l : List Int) (A : Option Addr) (c : Nat), e = .returned (.slice A l.length c) ∧ BigOk w' w'.heap.size false A l.length c l ∧ valL l = v ∧ Below w.heap.size w w'
theorem IOwn.caps {w : World} {base n c : Nat} {A : Option Addr} {l : List Int} (h : IOwn w base (.slice A n c) l) : n ≤ c ∧ c ≤ 9223372036854775807 ∧ (A = none → c = 0) := by
  rcases h.2 with ⟨e, h0⟩ | ⟨g, cap, cur, e, hb, hg, hnc, hcm, hcs, ht⟩
  · simp only [Value.slice.injEq] at e
    obtain ⟨-, h1, rfl⟩ := e
    exact ⟨by omega, by omega, fun _ => rfl⟩
  · simp only [Value.slice.injEq] at e
    obtain ⟨rfl, h1, rfl⟩ := e
    exact ⟨by rw [h1]; exact hnc, by simpa only [maxLen] using hcm, fun h => by cases h⟩
theorem bigOk_own {w : World} {base n c : Nat} {A : Option Addr} {L : List Int} (h : IOwn w base (.slice A n c) L) (hn : L.length = n) (hD : DigL L) (hf : tlen L n ≤ 2048) : BigOk w w.heap.size false A (tlen L n) c (trimmed L) := by
  obtain ⟨h1, h2, h3⟩ := h.caps
  have hl := trimmed_len L
  rw [hn] at hl
  exact ⟨hl.symm, Nat.le_trans (tlen_le L n) h1, h2, h3, trimmed_dig hD, trimmed_trim L, hf, fun _ => rfl, (h.mrd hn).trimmed⟩
set_option maxRecDepth 100000 in
set_option linter.unusedSimpArgs false in
theorem rdigit_same (A : Option Addr) (l : List Int) (n c i : Nat) (hn : n = l.length) (w : World) (hR : MRd w w.heap.size A l) : Calls Tryz.prog 106 #[.slice A n c, .int .i64 i] w (fun e w' => e = .returned (.int .i64 (dg l i)) ∧ w' = w) := by
  rcases Nat.lt_or_ge i n with hi | hi
  · have g1 : decide ((i : Int) < (n : Int)) = true := decide_eq_true (by omega)
    obtain ⟨b, off, rfl, hbl, hcell⟩ := hR.at_ (k := i) (by rw [← hn]; exact hi)
    obtain ⟨x, hx⟩ : ∃ x, x = dg l i := ⟨_, rfl⟩
    rw [← hx] at hcell ⊢
    clear hx hn hR
    go_enter Tryz.func106, Tryz.ntmps106
    go_wp2_with fail
    go_ret
    exact ⟨rfl, rfl⟩
  · have g1 : decide ((i : Int) < (n : Int)) = false := decide_eq_false (by omega)
    rw [show dg l i = 0 from dg_out (by omega)]
    clear hn hR
    go_enter Tryz.func106, Tryz.ntmps106
    go_wp2_with (refine wpList_skip (by rfl) ?_)
    go_ret
    exact ⟨rfl, rfl⟩
theorem less_step {a b O : List Int} {i : Nat} {o x y m o2 : Int} (hO : O.length = i) (h : dsum (dg O) i = dsum (dg a) i - dsum (dg b) i + o * bp i) (hx : x = dg a i) (hy : y = dg b i) (hm : m = x - y - o + o2 * 1073741824) :
    dsum (dg (O ++ [m])) (i + 1) = dsum (dg a) (i + 1) - dsum (dg b) (i + 1) + o2 * bp (i + 1) := by
  have e1 : dsum (dg (O ++ [m])) i = dsum (dg O) i := dsum_congr fun j hj => by
    simp only [dg, List.getD_eq_getElem?_getD, List.getElem?_append_left (show j < O.length by omega)]
  have e2 : dg (O ++ [m]) i = m := by
    subst hO
    simp [dg]
  rw [dsum_succ, dsum_succ, dsum_succ, e1, e2, h, hm, ← hx, ← hy, bp_succ]
  grind
theorem less_end {a b O : List Int} {n : Nat} {o : Int} (hn : a.length = n) (hb : b.length ≤ n) (hda : DigL a) (hdb : DigL b) (hle : valL b ≤ valL a) (hO : O.length = n) (hD : DigL O) (h : dsum (dg O) n = dsum (dg a) n - dsum (dg b) n + o * bp n) : valL O = valL a - valL b := by
  have ea : dsum (dg a) n = valL a := by rw [valL, hn]
  have eb : dsum (dg b) n = valL b := valL_more hb
  have eo : dsum (dg O) n = valL O := by rw [valL, hO]
  rw [ea, eb, eo] at h
  have ra := valL_range hda
  have rb := valL_range hdb
  have ro := valL_range hD
  rw [hn] at ra
  rw [hO] at ro
  have := over_zero (A := valL O) (o := -o) (t := n) (S := valL a - valL b) (by rw [h, Int.neg_mul]; omega) ro (by omega)
  have ho : o = 0 := by omega
  rw [ho, Int.zero_mul] at h
  omega
set_option maxRecDepth 100000 in
set_option linter.unusedSimpArgs false in
set_option linter.unusedVariables false in
set_option maxHeartbeats 8000000 in
theorem rless_any (A B : Option Addr) (a b : List Int) (la lb ca cb : Nat) (hla : la = a.length) (hlb : lb = b.length) (hda : DigL a) (hdb : DigL b) (h1 : la ≤ 2048) (h2 : lb ≤ la) (hle : valL b ≤ valL a) (w : World) (hA : MRd w w.heap.size A a) (hB : MRd w w.heap.size B b) :
    Calls Tryz.prog 88 #[.slice A la ca, .slice B lb cb] w (RPost (valL a - valL b) w) := by
  have HA := Lib.hid hA
  have HB := Lib.hid hB
  have HLA := Lib.hid hla
  have HLB := Lib.hid hlb
  have HDA := Lib.hid hda
  have HDB := Lib.hid hdb
  have HLE := Lib.hid hle
  have HDG := Lib.hid (fun W (h : Below w.heap.size w W) i => rdigit_same B b lb cb i hlb W ((hB.below h).more h.size))
  clear hA hB hla hlb hda hdb hle
  go_enter Tryz.func88, Tryz.ntmps88
  go_wp2_with fail
  obtain ⟨W0, hW0⟩ : ∃ W, W = w.alloc (.cells #[] 3) := ⟨_, rfl⟩
  have hO0 : IOwn W0 w.heap.size (.slice (some ⟨w.heap.size, 0, none⟩) 0 0) [] := by
    rw [hW0]
    exact ⟨rfl, .inr ⟨w.heap.size, 0, #[], rfl, Nat.le_refl _, by
      have h := heap_alloc_new w (.cells #[] 3)
      simpa using h, Nat.le_refl _, by simp only [maxLen]; omega, rfl, rfl⟩⟩
  have hB0 : Below w.heap.size w W0 := by rw [hW0]; exact (Below.refl _ w).alloc (Nat.le_refl _) _
  rw [← hW0]
  clear hW0
  go_loopw [5, 6, 7] (fun ov od iv wr => ∃ (i : Nat) (o : Int) (O : List Int), i ≤ la ∧ iv = .int .i64 i ∧ od = .int .i64 o ∧ (0 ≤ o ∧ o ≤ 1) ∧ O.length = i ∧ DigL O ∧ dsum (dg O) i = dsum (dg a) i - dsum (dg b) i + o * bp i ∧ IOwn wr w.heap.size ov O ∧ Below w.heap.size w wr) (fun _ _ iv _ => la - (intOf iv).toNat)
  case atStart => exact ⟨0, 0, [], by omega, rfl, rfl, by omega, rfl, (fun x hx => by cases hx), by simp [dsum], hO0, hB0⟩
  case round =>
    clear hO0 hB0
    obtain ⟨i, o, O, hi, rfl, rfl, hor, hL, hD, hs, hO, hBr⟩ := hrel
    have HO := Lib.hid hO
    have HD := Lib.hid hD
    have HS := Lib.hid hs
    have HBR := Lib.hid hBr
    have HL := Lib.hid hL
    clear hO hD hs hBr hL
    by_cases hlt : i < la
    · have g0 : decide ((i : Int) < (la : Int)) = true := decide_eq_true (by omega)
      have g0n : decide (i < la) = true := decide_eq_true hlt
      obtain ⟨ba, oa, rfl, hba, hca⟩ := (HA.out.below HBR.out).at_ (k := i) (by rw [← HLA.out]; exact hlt)
      obtain ⟨x, hx⟩ : ∃ x, x = dg a i := ⟨_, rfl⟩
      obtain ⟨y, hy⟩ : ∃ y, y = dg b i := ⟨_, rfl⟩
      have hxr := HDA.out.digs (i + 1) i (by omega)
      have hyr := HDB.out.digs (i + 1) i (by omega)
      have HC := Lib.hid (fun nn => HDG.out (wr.drewN nn) (below_drewN HBR.out nn) i)
      rw [← hx] at hca hxr
      rw [← hy] at hyr HC
      have HX := Lib.hid hx
      have HY := Lib.hid hy
      have hsz := HBR.out.size
      clear hx hy
      by_cases hm0 : x - y - o < 0
      · have g1 : decide (x - y - o < 0) = true := decide_eq_true hm0
        have HST := Lib.hid (less_step HL.out HS.out HX.out HY.out (show x - y - o + 1073741824 = x - y - o + 1 * 1073741824 by omega))
        have hmr := Lib.hid (show 0 ≤ x - y - o + 1073741824 ∧ x - y - o + 1073741824 < 1073741824 by omega)
        clear hm0
        go_wp2_with fail
        go_quiet ((go_at_call 106; exact Calls.quiet_of_same (HC.out _)))
        obtain ⟨Wd, hWd⟩ : ∃ V, V = wr.drewN nq := ⟨_, rfl⟩
        have hBD : Below wr.heap.size wr Wd := by rw [hWd]; exact below_drewN (Below.refl _ _) _
        rw [← hWd]
        clear hWd
        have HOA := Lib.hid (IOwn.alloc (IOwn.below HO.out hBD) (.cells #[.int .i64 (x - y - o + 1073741824)] 3))
        have hbs : w.heap.size ≤ (Wd.alloc (.cells #[.int .i64 (x - y - o + 1073741824)] 3)).heap.size := by have := hBD.size; simp only [World.size_alloc]; omega
        have hlen : O.length + 1 ≤ 1000000000000 := by have := HL.out; omega
        go_wp2_with (at_builtin; refine app_int rfl _ _ rfl w.heap.size u5 O rfl HOA.out (x - y - o + 1073741824) (Blk.new _ _ _) rfl hlen hbs ?_; intro v7 w7 hown7 hg7)
        go_roundw
        case rel =>
          have hg0 := hg7.alloc_first
          have hBd := HBR.out.trans (hBD.mono hsz)
          refine ⟨i + 1, 1, O ++ [(x - y - o + 1073741824)], by omega, by go_num, rfl, by omega, by rw [List.length_append, HL.out]; rfl, ?_, HST.out, hown7, hBd.trans (hg0.below hBd.size fun g e => ?_)⟩
          · intro z hz
            rcases List.mem_append.1 hz with h | h
            · exact HD.out z h
            · rw [List.mem_singleton.1 h]; exact hmr.out
          · exact (World.ownsRow.lt (IOwn.below HO.out hBD) g e).1
        case measure => simp [intOf]; omega
      · have g1 : decide (x - y - o < 0) = false := decide_eq_false hm0
        have HST := Lib.hid (less_step HL.out HS.out HX.out HY.out (show x - y - o = x - y - o + 0 * 1073741824 by omega))
        have hmr := Lib.hid (show 0 ≤ x - y - o ∧ x - y - o < 1073741824 by omega)
        clear hm0
        go_wp2_with fail
        go_quiet ((go_at_call 106; exact Calls.quiet_of_same (HC.out _)))
        obtain ⟨Wd, hWd⟩ : ∃ V, V = wr.drewN nq := ⟨_, rfl⟩
        have hBD : Below wr.heap.size wr Wd := by rw [hWd]; exact below_drewN (Below.refl _ _) _
        rw [← hWd]
        clear hWd
        have HOA := Lib.hid (IOwn.alloc (IOwn.below HO.out hBD) (.cells #[.int .i64 (x - y - o)] 3))
        have hbs : w.heap.size ≤ (Wd.alloc (.cells #[.int .i64 (x - y - o)] 3)).heap.size := by have := hBD.size; simp only [World.size_alloc]; omega
        have hlen : O.length + 1 ≤ 1000000000000 := by have := HL.out; omega
        go_wp2_with (at_builtin; refine app_int rfl _ _ rfl w.heap.size u5 O rfl HOA.out (x - y - o) (Blk.new _ _ _) rfl hlen hbs ?_; intro v7 w7 hown7 hg7)
        go_roundw
        case rel =>
          have hg0 := hg7.alloc_first
          have hBd := HBR.out.trans (hBD.mono hsz)
          refine ⟨i + 1, 0, O ++ [x - y - o], by omega, by go_num, rfl, by omega, by rw [List.length_append, HL.out]; rfl, ?_, HST.out, hown7, hBd.trans (hg0.below hBd.size fun g e => ?_)⟩
          · intro z hz
            rcases List.mem_append.1 hz with h | h
            · exact HD.out z h
            · rw [List.mem_singleton.1 h]; exact hmr.out
          · exact (World.ownsRow.lt (IOwn.below HO.out hBD) g e).1
        case measure => simp [intOf]; omega
    · obtain rfl : i = la := by omega
      have g0 : decide ((i : Int) < (i : Int)) = false := by simp
      obtain ⟨A5, c5, e5, -, -, -⟩ := HO.out.shape
      rw [HL.out] at e5
      subst e5
      obtain ⟨k1, k2, k3⟩ := HO.out.caps
      have HT := Lib.hid (rtrim_any A5 O i c5 HL.out.symm k1 k2 (by omega) wr (HO.out.mrd HL.out))
      clear k3
      go_wp2_with fail
      refine HT.out.mono ?_
      rintro e w2 ⟨rfl, hb2⟩
      go_wp2_with fail
      go_ret
      have hl := trimmed_len O
      rw [HL.out] at hl
      have hO2 := IOwn.below HO.out hb2
      refine ⟨trimmed O, A5, c5, by rw [hl]; rfl, by rw [hl]; exact bigOk_own hO2 HL.out HD.out (Nat.le_trans (tlen_le _ _) h1), by rw [trimmed_val]; exact less_end HLA.out.symm (by rw [← HLB.out]; exact h2) HDA.out HDB.out HLE.out HL.out HD.out HS.out, HBR.out.trans (hb2.mono HBR.out.size)⟩
end Go.Proofs.YtkkcbkfpaoldmaaGreatDoor

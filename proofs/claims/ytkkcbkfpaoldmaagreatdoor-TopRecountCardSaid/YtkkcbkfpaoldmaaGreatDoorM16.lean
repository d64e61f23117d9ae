/- Several texts in one: N47, N48, N49. -/
import Derived.Test.YtkkcbkfpaoldmaaGreatDoorM15
import Derived.BigGuardPart
/- Walks: podiumref10.Int, valid, cross. -/
namespace Go.Proofs.YtkkcbkfpaoldmaaGreatDoor
open Go Go.RowKit

/-- A whole number as a ratio. -/
def IntPost (n : Nat) (w : World) (e : Ending) (w' : World) : Prop :=
  ∃ (p q : List Int) (A1 A2 : Option Addr) (n1 c1 n2 c2 : Nat), e = .returned (.agg (ratC A1 n1 c1 A2 n2 c2)) ∧ BigOk w' w'.heap.size false A1 n1 c1 p ∧ BigOk w' w'.heap.size false A2 n2 c2 q ∧ valL p = n ∧ valL q = 1 ∧ Below w.heap.size w w'
theorem rat_noint2 (b1 b2 : Bool) (A1 A2 : Option Addr) (n1 c1 n2 c2 : Nat) (i : Nat) (x : Int) : (ratD b1 A1 n1 c1 b2 A2 n2 c2)[i]? ≠ some (Value.int .i64 x) := by
  rcases i with _ | _ | _ | _ | i <;> simp
set_option maxRecDepth 100000 in
set_option linter.unusedSimpArgs false in
set_option linter.unusedVariables false in
set_option maxHeartbeats 4000000 in
theorem rInt10_ok (n : Nat) (h : n < 1073741824) (w : World) : Calls Tryz.prog 33 #[.int .i64 n] w (IntPost n w) := by
  have H := Lib.hid (fun W => rMake9_ok n h W)
  have H1 := Lib.hid (fun W => rMake9_ok 1 (by omega) W)
  clear h
  go_enter Tryz.func33, Tryz.ntmps33
  go_wp2_with fail
  refine calls_gen (fun W => Blk W w.heap.size 29 (ratC none 0 0 none 0 0) ∧ Below w.heap.size w W) ⟨Blk.new w _ _, (Below.refl _ w).alloc (Nat.le_refl _) _⟩ (fun W0 ⟨b0, hB0⟩ => ?_)
  refine (H.out W0).mono ?_
  rintro e W1 ⟨l, A, c, rfl, hv, hl, hb1⟩
  obtain ⟨m, hm⟩ : ∃ m, m = l.length := ⟨_, rfl⟩
  rw [← hm] at hl ⊢
  have HL := Lib.hid hl
  have HV := Lib.hid hv
  have D0 := Lib.hid (b0.below hb1 b0.lt)
  have HB1 := Lib.hid (hB0.trans (hb1.mono hB0.size))
  clear b0 hB0 hb1 hl hv hm
  go_wp2_with fail
  refine (H1.out W1).mono ?_
  rintro e W2 ⟨l2, A2, c2, rfl, hv2, hl2, hb2⟩
  obtain ⟨m2, hm2⟩ : ∃ m, m = l2.length := ⟨_, rfl⟩
  rw [← hm2] at hl2 ⊢
  have HL1 := Lib.hid ((HL.out.below hb2).more hb2.size)
  have HL2 := Lib.hid hl2
  have HV2 := Lib.hid hv2
  have d2 := D0.out.below hb2 D0.out.lt
  have HB2 := Lib.hid (HB1.out.trans (hb2.mono HB1.out.size))
  clear hb2 hl2 hv2 hm2 HL D0
  go_wp2_with (refine store_rat rfl _ _ rfl d2 A A2 m c m2 c2 rfl rfl rfl ?_; intro w8 hD8 hO8 hz8)
  refine bodyPost_ret (results_cell_row rfl _ _ w.heap.size 29 _ (0, 0) _ rfl hD8 Tryz.underlying29 rfl ratSize) rfl ?_
  exact ⟨l, l2, A, A2, m, c, m2, c2, rfl, BigOk.rdIn2 HL1.out ((mrd_only HL1.out.rd d2 (rat_noint _ _ _ _ _ _ _ _) hO8).more hO8.size), BigOk.rdIn2 HL2.out ((mrd_only HL2.out.rd d2 (rat_noint _ _ _ _ _ _ _ _) hO8).more hO8.size), HV.out, HV2.out, HB2.out.trans (hO8.toBelow HB2.out.size (Nat.le_refl _))⟩
/-- A ratio that the reference takes. -/
structure R10 (w : World) (B : Nat) (b1 : Bool) (A1 : Option Addr) (n1 c1 : Nat) (A2 : Option Addr) (n2 c2 : Nat) (p q : List Int) : Prop where
  num : BigOk w B b1 A1 n1 c1 p
  den : BigOk w B false A2 n2 c2 q
  ok : Ok10 b1 p false q
  few1 : n1 ≤ 100
  few2 : n2 ≤ 100
theorem R10.below {w w' : World} {B : Nat} {b1 : Bool} {A1 A2 : Option Addr} {n1 c1 n2 c2 : Nat} {p q : List Int} (h : R10 w B b1 A1 n1 c1 A2 n2 c2 p q) (hb : Below B w w') : R10 w' B b1 A1 n1 c1 A2 n2 c2 p q := { h with num := h.num.below hb, den := h.den.below hb }
theorem R10.more {w : World} {B B' : Nat} {b1 : Bool} {A1 A2 : Option Addr} {n1 c1 n2 c2 : Nat} {p q : List Int} (h : R10 w B b1 A1 n1 c1 A2 n2 c2 p q) (hb : B ≤ B') : R10 w B' b1 A1 n1 c1 A2 n2 c2 p q := { h with num := h.num.more hb, den := h.den.more hb }
theorem R10.pos {w : World} {B : Nat} {b1 : Bool} {A1 A2 : Option Addr} {n1 c1 n2 c2 : Nat} {p q : List Int} (h : R10 w B b1 A1 n1 c1 A2 n2 c2 p q) : 0 < valL q := h.den.pos (by have h1 := h.ok.2.2.1; have h2 := h.den.len; omega)
theorem R10.num0 {w : World} {B : Nat} {A1 A2 : Option Addr} {n1 c1 n2 c2 : Nat} {p q : List Int} (h : R10 w B true A1 n1 c1 A2 n2 c2 p q) : 0 < valL p := by
  refine hb_pos h.num.dig h.num.trim ?_
  rcases Nat.eq_zero_or_pos p.length with h1 | h1
  · have := h.num.sign (by rw [h.num.len]; exact h1)
    cases this
  · exact h1
theorem IntPost.r10 {n : Nat} {w : World} {e : Ending} {w' : World} (h : IntPost n w e w') : ∃ (p q : List Int) (A1 A2 : Option Addr) (n1 c1 n2 c2 : Nat), e = .returned (.agg (ratC A1 n1 c1 A2 n2 c2)) ∧ (n < 1073741824 → R10 w' w'.heap.size false A1 n1 c1 A2 n2 c2 p q) ∧ valL p = n ∧ valL q = 1 ∧ Below w.heap.size w w' := by
  obtain ⟨p, q, A1, A2, n1, c1, n2, c2, rfl, h1, h2, h3, h4, h5⟩ := h
  refine ⟨p, q, A1, A2, n1, c1, n2, c2, rfl, fun hn => ⟨h1, h2, ⟨h1.ck, h2.ck, ?_, rfl, by rw [h4]; simp⟩, ?_, ?_⟩, h3, h4, h5⟩
  · rw [(one_list h2 h4).2]; simp
  · have := len_small h1 (by rw [h3]; omega)
    omega
  · rw [(one_list h2 h4).1]; omega
theorem rCheck10_ok (b1 : Bool) (A1 A2 : Option Addr) (n1 c1 n2 c2 : Nat) (p q : List Int) (w : World) (h : R10 w w.heap.size b1 A1 n1 c1 A2 n2 c2 p q) : Calls Tryz.prog 7 #[.agg (ratD b1 A1 n1 c1 false A2 n2 c2)] w (Ret (.int .i64 0) w) := by
  refine (rCheck10_any b1 false A1 A2 n1 c1 n2 c2 p q w h.num.len h.den.len h.num.cap h.den.cap h.num.most h.den.most h.num.nil h.den.nil h.num.rd h.den.rd (.inl h.few1) (.inl h.few2) (by have := h.few1; omega) (by have := h.few2; omega)).mono ?_
  rintro e w' ⟨r, rfl, hr | hr, hb⟩
  · rw [hr.1]; exact ⟨rfl, hb⟩
  · exact absurd h.ok hr.2
set_option maxRecDepth 100000 in
set_option linter.unusedSimpArgs false in
set_option linter.unusedVariables false in
set_option maxHeartbeats 4000000 in
theorem rvalid10_ok (b1 : Bool) (A1 A2 : Option Addr) (n1 c1 n2 c2 : Nat) (p q : List Int) (A3 A4 : Option Addr) (n3 c3 n4 c4 : Nat) (p2 q2 : List Int) (w : World) (h : R10 w w.heap.size b1 A1 n1 c1 A2 n2 c2 p q) (h2 : R10 w w.heap.size false A3 n3 c3 A4 n4 c4 p2 q2) :
    Calls Tryz.prog 89 #[.agg (ratD b1 A1 n1 c1 false A2 n2 c2), .agg (ratC A3 n3 c3 A4 n4 c4)] w (Ret (.bool true) w) := by
  have H1 := Lib.hid (fun W (hb : Below w.heap.size w W) => rCheck10_ok b1 A1 A2 n1 c1 n2 c2 p q W ((h.below hb).more hb.size))
  have H2 := Lib.hid (fun W (hb : Below w.heap.size w W) => rCheck10_ok false A3 A4 n3 c3 n4 c4 p2 q2 W ((h2.below hb).more hb.size))
  clear h h2
  go_enter Tryz.func89, Tryz.ntmps89
  go_wp2_with fail
  refine calls_gen (fun W => Blk W (w.heap.size + 1) 29 (ratC A3 n3 c3 A4 n4 c4) ∧ Below w.heap.size w W) ⟨Blk.new' _ _ _ (by simp), ((Below.refl _ w).alloc (Nat.le_refl _) _).alloc (by simp) _⟩ (fun W0 ⟨b0, hB0⟩ => ?_)
  refine (H1.out W0 hB0).mono ?_
  rintro e W1 ⟨rfl, hb1⟩
  have d0 := b0.below hb1 b0.lt
  have HB1 := Lib.hid (hB0.trans (hb1.mono hB0.size))
  have k0 : W1.cell? ⟨w.heap.size + 1, 0, none⟩ = some (.bool false) := d0.cell 0
  have k1 : W1.cell? ⟨w.heap.size + 1, 1, none⟩ = some (.slice A3 n3 c3) := d0.cell 1
  have k2 : W1.cell? ⟨w.heap.size + 1, 2, none⟩ = some (.bool false) := d0.cell 2
  have k3 : W1.cell? ⟨w.heap.size + 1, 3, none⟩ = some (.slice A4 n4 c4) := d0.cell 3
  clear b0 hB0 hb1 d0
  go_wp2_with fail
  refine (H2.out W1 HB1.out).mono ?_
  rintro e W2 ⟨rfl, hb2⟩
  have HB2 := Lib.hid (HB1.out.trans (hb2.mono HB1.out.size))
  clear hb2
  go_wp2_with fail
  go_ret
  exact ⟨rfl, HB2.out⟩
theorem rMul9_any (sg : Bool) (A1 A2 : Option Addr) (l1 k1 l2 k2 : Nat) (a b : List Int) (w : World) (ha : BigOk w w.heap.size sg A1 l1 k1 a) (hb : BigOk w w.heap.size false A2 l2 k2 b) (h1 : l1 ≤ 1000) (h2 : l2 ≤ 1000) (h3 : sg = true → 0 < valL a * valL b) :
    Calls Tryz.prog 107 #[.agg #[.bool sg, .slice A1 l1 k1], .agg #[.bool false, .slice A2 l2 k2]] w (MPost sg (valL a * valL b) w) := by
  cases sg with
  | true => exact rMul9_neg A1 A2 l1 k1 l2 k2 a b w ha hb h1 h2 (h3 rfl)
  | false => exact rMul9_ok A1 A2 l1 k1 l2 k2 a b w ha hb h1 h2
theorem results_row2_tmp {P : Program} {fn : Func} {p p2 q : Tmp} {ty : TypeId} (h : fn.results = #[.cell p ty, .cell p2 ty, .tmp q]) (tmps : Array Value) (w : World) (g g2 : Nat) (t t2 : TypeId) (cs cs2 : Array Value) (fr fr2 : Nat × Nat) (d : TypeDesc) (u : Value)
    (hp : tmps.getD p undef = .pointer (some ⟨g, 0, none⟩)) (hp2 : tmps.getD p2 undef = .pointer (some ⟨g2, 0, none⟩)) (hq : tmps.getD q undef = u) (hg : w.heap[g]? = some (.cells cs t fr)) (hg2 : w.heap[g2]? = some (.cells cs2 t2 fr2))
    (hu : P.underlying ty = some d) (hd : (match d with | .struct _ | .array _ _ => true | _ => false) = true) (hi : (P.info? ty).map (·.size) = some cs.size) (hi2 : (P.info? ty).map (·.size) = some cs2.size) :
    (results fn tmps).run P w = .ok (.tuple #[.agg cs, .agg cs2, u]) w := by
  have hp' : tmps[p]?.getD undef = .pointer (some ⟨g, 0, none⟩) := by simpa using hp
  have hp2' : tmps[p2]?.getD undef = .pointer (some ⟨g2, 0, none⟩) := by simpa using hp2
  have hq' : tmps[q]?.getD undef = u := by simpa using hq
  simp [results, h, hp', hp2', hq', asAddr, run_loadVar_row w g t ty cs fr d hg hu hd hi, run_loadVar_row w g2 t2 ty cs2 fr2 d hg2 hu hd hi2]
/-- Both products. -/
def CrossPost (sg : Bool) (u v : Int) (w : World) (e : Ending) (w' : World) : Prop :=
  ∃ (l m : List Int) (A B : Option Addr) (nl cl nm cm : Nat), e = .returned (.tuple #[.agg #[.bool sg, .slice A nl cl], .agg #[.bool false, .slice B nm cm], .int .i64 0]) ∧ BigOk w' w'.heap.size sg A nl cl l ∧ BigOk w' w'.heap.size false B nm cm m ∧ valL l = u ∧ valL m = v ∧ Below w.heap.size w w'
set_option maxRecDepth 100000 in
set_option linter.unusedSimpArgs false in
set_option linter.unusedVariables false in
set_option maxHeartbeats 4000000 in
theorem rcross10_ok (b1 : Bool) (A1 A2 : Option Addr) (n1 c1 n2 c2 : Nat) (p q : List Int) (A3 A4 : Option Addr) (n3 c3 n4 c4 : Nat) (p2 q2 : List Int) (w : World) (h : R10 w w.heap.size b1 A1 n1 c1 A2 n2 c2 p q) (h2 : R10 w w.heap.size false A3 n3 c3 A4 n4 c4 p2 q2) :
    Calls Tryz.prog 90 #[.agg (ratD b1 A1 n1 c1 false A2 n2 c2), .agg (ratC A3 n3 c3 A4 n4 c4)] w (CrossPost b1 (valL p * valL q2) (valL p2 * valL q) w) := by
  have H1 := Lib.hid (fun W (hb : Below w.heap.size w W) => rMul9_any b1 A1 A4 n1 c1 n4 c4 p q2 W ((h.num.below hb).more hb.size) ((h2.den.below hb).more hb.size) (by have := h.few1; omega) (by have := h2.few2; omega) (fun e => by subst e; exact Int.mul_pos h.num0 h2.pos))
  have H2 := Lib.hid (fun W (hb : Below w.heap.size w W) => rMul9_ok A3 A2 n3 c3 n2 c2 p2 q W ((h2.num.below hb).more hb.size) ((h.den.below hb).more hb.size) (by have := h2.few1; omega) (by have := h.few2; omega))
  obtain ⟨u, hu⟩ : ∃ u, u = valL p * valL q2 := ⟨_, rfl⟩
  obtain ⟨v, hv⟩ : ∃ v, v = valL p2 * valL q := ⟨_, rfl⟩
  rw [← hu] at H1 ⊢
  rw [← hv] at H2 ⊢
  clear h h2 hu hv
  go_enter Tryz.func90, Tryz.ntmps90
  go_wp2_with fail
  refine calls_gen (fun W => Blk W w.heap.size 29 (ratD b1 A1 n1 c1 false A2 n2 c2) ∧ Blk W (w.heap.size + 1) 29 (ratC A3 n3 c3 A4 n4 c4) ∧ Blk W (w.heap.size + 2) 27 #[.bool false, .slice none 0 0] ∧ Blk W (w.heap.size + 3) 27 #[.bool false, .slice none 0 0] ∧ Below w.heap.size w W)
    ⟨(((Blk.new w _ _).alloc _).alloc _).alloc _, ((Blk.new' _ _ _ (by simp)).alloc _).alloc _, (Blk.new' _ _ _ (by simp)).alloc _, Blk.new' _ _ _ (by simp), ((((Below.refl _ w).alloc (Nat.le_refl _) _).alloc (by simp) _).alloc (by simp; omega) _).alloc (by simp; omega) _⟩ (fun W0 ⟨b0, b1', b2, b3, hB0⟩ => ?_)
  refine (H1.out W0 hB0).mono ?_
  rintro e W1 ⟨l, A, n, c, rfl, hl, hlv, hb1⟩
  have HL := Lib.hid hl
  have HLV := Lib.hid hlv
  have D0 := Lib.hid (b0.below hb1 b0.lt)
  have D1 := Lib.hid (b1'.below hb1 b1'.lt)
  have D2 := Lib.hid (b2.below hb1 b2.lt)
  have D3 := Lib.hid (b3.below hb1 b3.lt)
  have HB1 := Lib.hid (hB0.trans (hb1.mono hB0.size))
  clear b0 b1' b2 b3 hB0 hb1 hl hlv
  go_upto_region 2 with (refine store_big rfl _ _ rfl (Blk.new W1 27 _) b1 A n c rfl rfl rfl ?_; intro w5 bx5 hO hz; have hk5 : Below W1.heap.size W1 w5 := ((Below.refl _ W1).alloc (Nat.le_refl _) _).trans (hO.toBelow (by simp) (Nat.le_refl _)); clear hO hz)
  obtain ⟨g7, hg7⟩ : ∃ g, g = W1.heap.size := ⟨_, rfl⟩
  rw [← hg7] at bx5 ⊢
  have HG7 := Lib.hid (show w.heap.size + 3 < g7 by rw [hg7]; exact D3.out.lt)
  have E0 := Lib.hid (D0.out.below hk5 D0.out.lt)
  have E1 := Lib.hid (D1.out.below hk5 D1.out.lt)
  have E2 := Lib.hid (D2.out.below hk5 D2.out.lt)
  have E3 := Lib.hid (D3.out.below hk5 D3.out.lt)
  have HL5 := Lib.hid ((HL.out.below hk5).more hk5.size)
  have HB5 := Lib.hid (HB1.out.trans (hk5.mono HB1.out.size))
  have B7 := Lib.hid bx5
  have k2 : w5.cell? ⟨w.heap.size, 2, none⟩ = some (.bool false) := E0.out.cell 2
  have k3 : w5.cell? ⟨w.heap.size, 3, none⟩ = some (.slice A2 n2 c2) := E0.out.cell 3
  have j0 : w5.cell? ⟨w.heap.size + 1, 0, none⟩ = some (.bool false) := E1.out.cell 0
  have j1 : w5.cell? ⟨w.heap.size + 1, 1, none⟩ = some (.slice A3 n3 c3) := E1.out.cell 1
  clear hk5 HL bx5 hg7 D0 D1 D2 D3
  go_wp2_with fail
  refine (H2.out w5 HB5.out).mono ?_
  rintro e W6 ⟨l2, A', n', c', rfl, hl2, hlv2, hb6⟩
  have HL2 := Lib.hid hl2
  have HLV2 := Lib.hid hlv2
  have F2 := Lib.hid (E2.out.below hb6 E2.out.lt)
  have F3 := Lib.hid (E3.out.below hb6 E3.out.lt)
  have C7 := Lib.hid (B7.out.below hb6 B7.out.lt)
  have HL6 := Lib.hid ((HL5.out.below hb6).more hb6.size)
  have HB6 := Lib.hid (HB5.out.trans (hb6.mono HB5.out.size))
  clear hl2 hlv2 hb6 E0 E1 E2 E3 B7 HL5 k2 k3 j0 j1
  go_upto_region 3 with (refine store_big rfl _ _ rfl (Blk.new W6 27 _) false A' n' c' rfl rfl rfl ?_; intro w7 bx7 hO hz; have hk7 : Below W6.heap.size W6 w7 := ((Below.refl _ W6).alloc (Nat.le_refl _) _).trans (hO.toBelow (by simp) (Nat.le_refl _)); clear hO hz)
  obtain ⟨g9, hg9⟩ : ∃ g, g = W6.heap.size := ⟨_, rfl⟩
  rw [← hg9] at bx7 ⊢
  have HG9 := Lib.hid (show w.heap.size + 3 < g9 by rw [hg9]; exact F3.out.lt)
  have G2 := Lib.hid (F2.out.below hk7 F2.out.lt)
  have G3 := Lib.hid (F3.out.below hk7 F3.out.lt)
  have B7 := Lib.hid (C7.out.below hk7 C7.out.lt)
  have B9 := Lib.hid bx7
  have HL7 := Lib.hid ((HL6.out.below hk7).more hk7.size)
  have HM7 := Lib.hid ((HL2.out.below hk7).more hk7.size)
  have HB7 := Lib.hid (HB6.out.trans (hk7.mono HB6.out.size))
  clear hk7 HL6 HL2 bx7 hg9 F2 F3 C7
  go_wp2_with fail
  refine wp_region_held_drew (S := fun W' => W'.cell? ⟨g7, 0, none⟩ = some (.bool b1) ∧ W'.cell? ⟨g7, 1, none⟩ = some (.slice A n c) ∧ W'.cell? ⟨g9, 0, none⟩ = some (.bool false) ∧ W'.cell? ⟨g9, 1, none⟩ = some (.slice A' n' c')) (by kernel_rfl) ⟨B7.out.cell 0, B7.out.cell 1, B9.out.cell 0, B9.out.cell 1⟩ (fun hS => ?_)
  refine wpAnyH_take (i := 0) (v := .agg #[.bool b1, .slice A n c]) rfl (by kernel_rfl) (by kernel_rfl) (by kernel_rfl) (fun _ _ _ h => h) (Or.inl ⟨by rfl, fun W' hS' => by obtain ⟨q0, q1, q2, q3⟩ := hS'; go_simp⟩) hS ?_
  simp only [Act.put, List.getElem_toArray, List.getElem_cons_zero, List.getElem_cons_succ, List.setIfInBounds_toArray, List.set_cons_zero, List.set_cons_succ]
  refine wpAnyH_take (i := 1) (v := .agg #[.bool false, .slice A' n' c']) rfl (by kernel_rfl) (by kernel_rfl) (by kernel_rfl) (fun _ _ _ h => h) (Or.inl ⟨by rfl, fun W' hS' => by obtain ⟨q0, q1, q2, q3⟩ := hS'; go_simp⟩) hS ?_
  simp only [Act.put, List.getElem_toArray, List.getElem_cons_zero, List.getElem_cons_succ, List.setIfInBounds_toArray, List.set_cons_zero, List.set_cons_succ]
  have G2d := Blk.drew G2.out
  have G3d := Blk.drew G3.out
  refine wpAnyH_ready (rs := [2]) (by kernel_rfl) (by simp) ?_
  refine AllReadyH.cons rfl (fun Kq hKq => ?_) AllReadyH.nil
  simp only [List.getElem_toArray, List.getElem_cons_zero, List.getElem_cons_succ]
  rw [if_pos (by rfl)]
  refine wp_store_big _ _ rfl G2d b1 A n c rfl rfl rfl ?_
  intro w8 hD8 hO8 hz8
  have hcg : ∀ b i u, w.heap.size + 3 < b → w7.cell? ⟨b, i, none⟩ = some u → w8.cell? ⟨b, i, none⟩ = some u := fun b i u hb h => World.grownBy.cell hO8 h (fun e => by have := Option.some.inj e; simp at this; omega)
  have hS8 : w8.cell? ⟨g7, 0, none⟩ = some (.bool b1) ∧ w8.cell? ⟨g7, 1, none⟩ = some (.slice A n c) ∧ w8.cell? ⟨g9, 0, none⟩ = some (.bool false) ∧ w8.cell? ⟨g9, 1, none⟩ = some (.slice A' n' c') := ⟨hcg _ _ _ HG7.out (B7.out.cell 0), hcg _ _ _ HG7.out (B7.out.cell 1), hcg _ _ _ HG9.out (B9.out.cell 0), hcg _ _ _ HG9.out (B9.out.cell 1)⟩
  refine hKq.out _ _ hS8 (fun _ => ?_)
  clear hKq Kq hcg
  have e3 : Blk w8 (w.heap.size + 3) 27 #[.bool false, .slice none 0 0] := (hO8.block _ G3d.lt (fun e => by have := Option.some.inj e; omega)).trans G3d
  refine wpAnyH_ready (rs := [3]) (by kernel_rfl) (by simp) ?_
  refine AllReadyH.cons rfl (fun Kq hKq => ?_) AllReadyH.nil
  simp only [List.getElem_toArray, List.getElem_cons_zero, List.getElem_cons_succ]
  rw [if_pos (by rfl)]
  refine wp_store_big _ _ rfl e3 false A' n' c' rfl rfl rfl ?_
  intro w9 hD9 hO9 hz9
  have hcg : ∀ b i u, w.heap.size + 3 < b → w8.cell? ⟨b, i, none⟩ = some u → w9.cell? ⟨b, i, none⟩ = some u := fun b i u hb h => World.grownBy.cell hO9 h (fun e => by have := Option.some.inj e; simp at this; omega)
  have hS9 : w9.cell? ⟨g7, 0, none⟩ = some (.bool b1) ∧ w9.cell? ⟨g7, 1, none⟩ = some (.slice A n c) ∧ w9.cell? ⟨g9, 0, none⟩ = some (.bool false) ∧ w9.cell? ⟨g9, 1, none⟩ = some (.slice A' n' c') := ⟨hcg _ _ _ HG7.out hS8.1, hcg _ _ _ HG7.out hS8.2.1, hcg _ _ _ HG9.out hS8.2.2.1, hcg _ _ _ HG9.out hS8.2.2.2⟩
  refine hKq.out _ _ hS9 (fun _ => ?_)
  clear hKq Kq hcg
  have e2 : Blk w9 (w.heap.size + 2) 27 #[.bool b1, .slice A n c] := (hO9.block _ hD8.lt (fun e => by have := Option.some.inj e; omega)).trans hD8
  refine wpAnyH_take (i := 4) (v := .int .i64 0) rfl (by kernel_rfl) (by kernel_rfl) (by kernel_rfl) (fun _ _ _ h => h) (Or.inl ⟨by rfl, fun W' hS' => by go_simp⟩) hS9 ?_
  simp only [Act.put, List.getElem_toArray, List.getElem_cons_zero, List.getElem_cons_succ, List.setIfInBounds_toArray, List.set_cons_zero, List.set_cons_succ]
  refine wpAnyH_done (by kernel_rfl) ?_ _
  have X8 := BigOk.rdIn2 HL7.out ((mrd_only (w := w7.drew) HL7.out.rd G2d (big_noint _ _ _ _) hO8).more hO8.size)
  have X9 := BigOk.rdIn2 X8 ((mrd_only X8.rd e3 (big_noint _ _ _ _) hO9).more hO9.size)
  have Y8 := BigOk.rdIn2 HM7.out ((mrd_only (w := w7.drew) HM7.out.rd G2d (big_noint _ _ _ _) hO8).more hO8.size)
  have HY9 := Lib.hid (BigOk.rdIn2 Y8 ((mrd_only Y8.rd e3 (big_noint _ _ _ _) hO9).more hO9.size))
  have HX9 := Lib.hid X9
  have hB8 := HB7.out.drew.trans (hO8.toBelow HB7.out.drew.size (by omega))
  have HB9 := Lib.hid (hB8.trans (hO9.toBelow hB8.size (by omega)))
  clear hS8 hS9 X8 X9 Y8 hB8
  go_wp2_with fail
  refine bodyPost_ret (results_row2_tmp rfl _ _ (w.heap.size + 2) (w.heap.size + 3) 27 27 _ _ (0, 0) (0, 0) _ _ rfl rfl rfl e2 hD9 Tryz.underlying27 rfl bigSize bigSize) rfl ?_
  exact ⟨l, l2, A, A', n, c, n', c', rfl, HX9.out, HY9.out, HLV.out, HLV2.out, HB9.out⟩
end Go.Proofs.YtkkcbkfpaoldmaaGreatDoor

/- Walks: podiumref10.Cmp, podiumref56.more, Limit. -/
namespace Go.Proofs.YtkkcbkfpaoldmaaGreatDoor
open Go Go.RowKit

/-- What a comparison with a ratio that is not negative answers. -/
def cmpS (b1 : Bool) (x : Int) : Int := if b1 then -1 else sgn x
set_option maxRecDepth 100000 in
set_option linter.unusedSimpArgs false in
set_option linter.unusedVariables false in
set_option maxHeartbeats 4000000 in
theorem rCmp10_ok (b1 : Bool) (A1 A2 : Option Addr) (n1 c1 n2 c2 : Nat) (p q : List Int) (A3 A4 : Option Addr) (n3 c3 n4 c4 : Nat) (p2 q2 : List Int) (w : World) (h : R10 w w.heap.size b1 A1 n1 c1 A2 n2 c2 p q) (h2 : R10 w w.heap.size false A3 n3 c3 A4 n4 c4 p2 q2) :
    Calls Tryz.prog 62 #[.agg (ratD b1 A1 n1 c1 false A2 n2 c2), .agg (ratC A3 n3 c3 A4 n4 c4)] w (Ret (.tuple #[.int .i64 (cmpS b1 (valL p * valL q2 - valL p2 * valL q)), .int .i64 0]) w) := by
  have HV := Lib.hid (fun W (hb : Below w.heap.size w W) => rvalid10_ok b1 A1 A2 n1 c1 n2 c2 p q A3 A4 n3 c3 n4 c4 p2 q2 W ((h.below hb).more hb.size) ((h2.below hb).more hb.size))
  have HX := Lib.hid (fun W (hb : Below w.heap.size w W) => rcross10_ok b1 A1 A2 n1 c1 n2 c2 p q A3 A4 n3 c3 n4 c4 p2 q2 W ((h.below hb).more hb.size) ((h2.below hb).more hb.size))
  obtain ⟨u, hu⟩ : ∃ u, u = valL p * valL q2 := ⟨_, rfl⟩
  obtain ⟨v, hv⟩ : ∃ v, v = valL p2 * valL q := ⟨_, rfl⟩
  rw [← hu, ← hv] at HX ⊢
  clear h h2 hu hv
  go_enter Tryz.func62, Tryz.ntmps62
  go_wp2_with fail
  refine calls_gen (fun W => Blk W w.heap.size 29 (ratD b1 A1 n1 c1 false A2 n2 c2) ∧ Blk W (w.heap.size + 1) 29 (ratC A3 n3 c3 A4 n4 c4) ∧ Below w.heap.size w W)
    ⟨(Blk.new w _ _).alloc _, Blk.new' _ _ _ (by simp), ((Below.refl _ w).alloc (Nat.le_refl _) _).alloc (by simp) _⟩ (fun W0 ⟨b0, b1', hB0⟩ => ?_)
  refine (HV.out W0 hB0).mono ?_
  rintro e W1 ⟨rfl, hb1⟩
  have d0 := b0.below hb1 b0.lt
  have d1 := b1'.below hb1 b1'.lt
  have HB1 := Lib.hid (hB0.trans (hb1.mono hB0.size))
  have k0 : W1.cell? ⟨w.heap.size, 0, none⟩ = some (.bool b1) := d0.cell 0
  have j0 : W1.cell? ⟨w.heap.size + 1, 0, none⟩ = some (.bool false) := d1.cell 0
  have k1 : W1.cell? ⟨w.heap.size, 1, none⟩ = some (.slice A1 n1 c1) := d0.cell 1
  have j1 : W1.cell? ⟨w.heap.size + 1, 1, none⟩ = some (.slice A3 n3 c3) := d1.cell 1
  have k2 : W1.cell? ⟨w.heap.size, 2, none⟩ = some (.bool false) := d0.cell 2
  have j2 : W1.cell? ⟨w.heap.size + 1, 2, none⟩ = some (.bool false) := d1.cell 2
  have k3 : W1.cell? ⟨w.heap.size, 3, none⟩ = some (.slice A2 n2 c2) := d0.cell 3
  have j3 : W1.cell? ⟨w.heap.size + 1, 3, none⟩ = some (.slice A4 n4 c4) := d1.cell 3
  clear b0 b1' hB0 hb1 d0 d1
  go_wp2_with fail
  refine (HX.out W1 HB1.out).mono ?_
  rintro e W2 ⟨l, m, A, B, nl, cl, nm, cm, rfl, hl, hm, hlv, hmv, hb2⟩
  have HL := Lib.hid hl
  have HM := Lib.hid hm
  have HLV := Lib.hid hlv
  have HMV := Lib.hid hmv
  have HB2 := Lib.hid (HB1.out.trans (hb2.mono HB1.out.size))
  have BA := Lib.hid ((Blk.new W2 27 #[.bool false, .slice none 0 0]).alloc (.cells #[.bool false, .slice none 0 0] 27))
  have BB := Lib.hid (Blk.new' (W2.alloc (.cells #[.bool false, .slice none 0 0] 27)) (g := W2.heap.size + 1) 27 #[.bool false, .slice none 0 0] (by simp))
  have HBA := Lib.hid (((Below.refl _ W2).alloc (Nat.le_refl _) (.cells #[.bool false, .slice none 0 0] 27)).alloc (by simp) (.cells #[.bool false, .slice none 0 0] 27))
  clear hl hm hlv hmv hb2 k0 k1 k2 k3 j0 j1 j2 j3
  go_upto_region 4 with (first
    | (refine store_big rfl _ _ rfl BA.out b1 A nl cl rfl rfl rfl ?_; intro w8 hD8 hO8 hz8; have e8 := (hO8.block _ BB.out.lt (fun e => by have := Option.some.inj e; omega)).trans BB.out)
    | (refine store_big rfl _ _ rfl e8 false B nm cm rfl rfl rfl ?_; intro w9 hD9 hO9 hz9))
  have e9 : Blk w9 W2.heap.size 27 #[.bool b1, .slice A nl cl] := (hO9.block _ hD8.lt (fun e => by have := Option.some.inj e; omega)).trans hD8
  have hb28 : Below W2.heap.size W2 w8 := HBA.out.trans (hO8.toBelow HBA.out.size (Nat.le_refl _))
  have hb29 : Below W2.heap.size W2 w9 := hb28.trans (hO9.toBelow hb28.size (by omega))
  have HB9 := Lib.hid (HB2.out.trans (hb29.mono HB2.out.size))
  have HC := Lib.hid (rCmp9_any b1 A B nl cl nm cm l m w9 ((HL.out.below hb29).more hb29.size) ((HM.out.below hb29).more hb29.size))
  rw [HLV.out, HMV.out] at HC
  have x0 : w9.cell? ⟨W2.heap.size, 0, none⟩ = some (.bool b1) := e9.cell 0
  have x1 : w9.cell? ⟨W2.heap.size, 1, none⟩ = some (.slice A nl cl) := e9.cell 1
  have y0 : w9.cell? ⟨W2.heap.size + 1, 0, none⟩ = some (.bool false) := hD9.cell 0
  have y1 : w9.cell? ⟨W2.heap.size + 1, 1, none⟩ = some (.slice B nm cm) := hD9.cell 1
  clear hb28 hb29 HL HM BA BB HBA e9 hD9 hD8 e8 hO8 hO9
  obtain ⟨S, hS⟩ : ∃ S, S = cmpS b1 (u - v) := ⟨_, rfl⟩
  rw [show (if b1 = true then (-1 : Int) else sgn (u - v)) = S from hS.symm] at HC
  have HS := Lib.hid hS
  clear hS
  go_wp2_with fail
  refine HC.out.mono ?_
  rintro e W10 ⟨rfl, hb10⟩
  have HB10 := Lib.hid (HB9.out.trans (hb10.mono HB9.out.size))
  clear hb10 x0 x1 y0 y1
  go_wp2_with fail
  go_ret2
  exact ⟨by rw [← HS.out]; rfl, HB10.out⟩
set_option maxRecDepth 100000 in
set_option linter.unusedSimpArgs false in
set_option linter.unusedVariables false in
set_option maxHeartbeats 4000000 in
theorem rmore56_ok (b1 : Bool) (A1 A2 : Option Addr) (n1 c1 n2 c2 : Nat) (p q : List Int) (A3 A4 : Option Addr) (n3 c3 n4 c4 : Nat) (p2 q2 : List Int) (w : World) (h : R10 w w.heap.size b1 A1 n1 c1 A2 n2 c2 p q) (h2 : R10 w w.heap.size false A3 n3 c3 A4 n4 c4 p2 q2) :
    Calls Tryz.prog 32 #[.agg (ratD b1 A1 n1 c1 false A2 n2 c2), .agg (ratC A3 n3 c3 A4 n4 c4)] w (Ret (.bool (decide (0 < cmpS b1 (valL p * valL q2 - valL p2 * valL q)))) w) := by
  have HC := Lib.hid (fun W (hb : Below w.heap.size w W) => rCmp10_ok b1 A1 A2 n1 c1 n2 c2 p q A3 A4 n3 c3 n4 c4 p2 q2 W ((h.below hb).more hb.size) ((h2.below hb).more hb.size))
  obtain ⟨S, hS⟩ : ∃ S, S = cmpS b1 (valL p * valL q2 - valL p2 * valL q) := ⟨_, rfl⟩
  rw [← hS] at HC ⊢
  clear h h2 hS
  go_enter Tryz.func32, Tryz.ntmps32
  go_wp2_with fail
  refine (HC.out _ (((Below.refl _ w).alloc (Nat.le_refl _) _).alloc (by simp) _)).mono ?_
  rintro e W2 ⟨rfl, hb2⟩
  have HB2 := Lib.hid ((((Below.refl _ w).alloc (Nat.le_refl _) _).alloc (by simp) _).trans (hb2.mono (by simp; omega)))
  clear hb2
  go_wp2_with fail
  go_ret
  exact ⟨rfl, HB2.out⟩
/-- Can it be a limit? -/
def limB (b1 : Bool) (p q : List Int) : Bool := !b1 && decide (0 < valL p) && decide (valL p ≤ valL q)
theorem limB_first (b1 : Bool) (p q : List Int) : decide (0 < cmpS b1 (valL p * 1 - ((0 : Nat) : Int) * valL q)) = (!b1 && decide (0 < valL p)) := by
  cases b1 with
  | true => simp [cmpS]
  | false =>
    have e : valL p * 1 - ((0 : Nat) : Int) * valL q = valL p := by simp
    rw [e]
    simp only [cmpS, Bool.false_eq_true, if_false, Bool.not_false, Bool.true_and]
    refine decide_eq_decide.2 ?_
    unfold sgn
    split
    · omega
    · split <;> omega
theorem limB_second (p q : List Int) : decide (0 < cmpS false (valL p * 1 - ((1 : Nat) : Int) * valL q)) = !decide (valL p ≤ valL q) := by
  have e : valL p * 1 - ((1 : Nat) : Int) * valL q = valL p - valL q := by simp
  rw [e, ← decide_not]
  simp only [cmpS, Bool.false_eq_true, if_false]
  refine decide_eq_decide.2 ?_
  unfold sgn
  split
  · omega
  · split <;> omega
set_option maxRecDepth 100000 in
set_option linter.unusedSimpArgs false in
set_option linter.unusedVariables false in
set_option maxHeartbeats 4000000 in
theorem rLimit56_ok (b1 : Bool) (A1 A2 : Option Addr) (n1 c1 n2 c2 : Nat) (p q : List Int) (w : World) (h : R10 w w.heap.size b1 A1 n1 c1 A2 n2 c2 p q) :
    Calls Tryz.prog 8 #[.agg (ratD b1 A1 n1 c1 false A2 n2 c2)] w (Ret (.bool (limB b1 p q)) w) := by
  have HR := Lib.hid h
  have HM := Lib.hid (fun W A3 A4 n3 c3 n4 c4 p2 q2 (hb : Below w.heap.size w W) (h2 : R10 W W.heap.size false A3 n3 c3 A4 n4 c4 p2 q2) => rmore56_ok b1 A1 A2 n1 c1 n2 c2 p q A3 A4 n3 c3 n4 c4 p2 q2 W ((h.below hb).more hb.size) h2)
  clear h
  go_enter Tryz.func8, Tryz.ntmps8
  go_wp2_with fail
  obtain ⟨W1, hW1⟩ : ∃ W, W = w.alloc (.cells (ratD b1 A1 n1 c1 false A2 n2 c2) 29) := ⟨_, rfl⟩
  have b0 : Blk W1 w.heap.size 29 (ratD b1 A1 n1 c1 false A2 n2 c2) := by rw [hW1]; exact Blk.new _ _ _
  have HB1 := Lib.hid (show Below w.heap.size w W1 by rw [hW1]; exact (Below.refl _ w).alloc (Nat.le_refl _) _)
  rw [← hW1]
  clear hW1
  refine wp_region_held_drew (S := fun W' => W'.cell? ⟨w.heap.size, 0, none⟩ = some (.bool b1) ∧ W'.cell? ⟨w.heap.size, 1, none⟩ = some (.slice A1 n1 c1) ∧ W'.cell? ⟨w.heap.size, 2, none⟩ = some (.bool false) ∧ W'.cell? ⟨w.heap.size, 3, none⟩ = some (.slice A2 n2 c2)) (by kernel_rfl) ⟨b0.cell 0, b0.cell 1, b0.cell 2, b0.cell 3⟩ (fun hS => ?_)
  refine wpAnyH_take (i := 0) (v := .agg #[.bool b1, .slice A1 n1 c1, .bool false, .slice A2 n2 c2]) rfl (by kernel_rfl) (by kernel_rfl) (by kernel_rfl) (fun _ _ _ h => h) (Or.inl ⟨by rfl, fun W' hS' => by obtain ⟨q0, q1, q2, q3⟩ := hS'; go_simp⟩) hS ?_
  simp only [Act.put, List.getElem_toArray, List.getElem_cons_zero, List.getElem_cons_succ, List.setIfInBounds_toArray, List.set_cons_zero, List.set_cons_succ]
  have hd := Blk.drew b0
  have hbd : Below w.heap.size w W1.drew := HB1.out.drew
  refine wpAnyH_ready (rs := [1]) (by kernel_rfl) (by simp) ?_
  refine AllReadyH.cons rfl (fun Kq hKq => ?_) AllReadyH.nil
  simp only [List.getElem_toArray, List.getElem_cons_zero, List.getElem_cons_succ]
  go_simp
  refine (rInt10_ok 0 (by omega) _).mono ?_
  rintro e W2 hp2
  obtain ⟨p2, q2, A3, A4, n3, c3, n4, c4, rfl, hr, hpv, hqv, hb2⟩ := hp2.r10
  have d2 := hd.below hb2 hd.lt
  have HB2 := Lib.hid (hbd.trans (hb2.mono hbd.size))
  have HM2 := Lib.hid (HM.out W2 A3 A4 n3 c3 n4 c4 p2 q2 HB2.out (hr (by omega)))
  rw [hpv, hqv, limB_first] at HM2
  refine hKq.out _ _ ⟨d2.cell 0, d2.cell 1, d2.cell 2, d2.cell 3⟩ (fun _ => ?_)
  clear hKq Kq hp2 hr hpv hqv hb2
  refine wpAnyH_ready (rs := [2]) (by kernel_rfl) (by simp) ?_
  refine AllReadyH.cons rfl (fun Kq hKq => ?_) AllReadyH.nil
  simp only [List.getElem_toArray, List.getElem_cons_zero, List.getElem_cons_succ]
  go_simp
  refine HM2.out.mono ?_
  rintro e W3 ⟨rfl, hb3⟩
  have d3 := d2.below hb3 d2.lt
  have HB3 := Lib.hid (HB2.out.trans (hb3.mono HB2.out.size))
  have hS3 : W3.cell? ⟨w.heap.size, 0, none⟩ = some (.bool b1) ∧ W3.cell? ⟨w.heap.size, 1, none⟩ = some (.slice A1 n1 c1) ∧ W3.cell? ⟨w.heap.size, 2, none⟩ = some (.bool false) ∧ W3.cell? ⟨w.heap.size, 3, none⟩ = some (.slice A2 n2 c2) := ⟨d3.cell 0, d3.cell 1, d3.cell 2, d3.cell 3⟩
  refine hKq.out _ _ hS3 (fun _ => ?_)
  clear hKq Kq hb3 HM2
  cases hc : (!b1 && decide (0 < valL p)) with
  | false =>
    have HE := Lib.hid (show limB b1 p q = false by rw [limB, hc]; rfl)
    clear hc
    refine wpAnyH_take (i := 3) (v := .bool false) rfl (by kernel_rfl) (by kernel_rfl) (by kernel_rfl) (fun _ _ _ h => h) (Or.inl ⟨by rfl, fun W' hS' => by go_simp⟩) hS3 ?_
    simp only [Act.put, List.getElem_toArray, List.getElem_cons_zero, List.getElem_cons_succ, List.setIfInBounds_toArray, List.set_cons_zero, List.set_cons_succ]
    refine wpAnyH_take (i := 4) (v := undef) rfl (by kernel_rfl) (by kernel_rfl) (by kernel_rfl) (fun _ _ _ h => h) (Or.inr ⟨by rfl, rfl⟩) hS3 ?_
    simp only [Act.put, List.getElem_toArray, List.getElem_cons_zero, List.getElem_cons_succ, List.setIfInBounds_toArray, List.set_cons_zero, List.set_cons_succ]
    refine wpAnyH_take (i := 5) (v := undef) rfl (by kernel_rfl) (by kernel_rfl) (by kernel_rfl) (fun _ _ _ h => h) (Or.inr ⟨by rfl, rfl⟩) hS3 ?_
    simp only [Act.put, List.getElem_toArray, List.getElem_cons_zero, List.getElem_cons_succ, List.setIfInBounds_toArray, List.set_cons_zero, List.set_cons_succ]
    refine wpAnyH_take (i := 6) (v := undef) rfl (by kernel_rfl) (by kernel_rfl) (by kernel_rfl) (fun _ _ _ h => h) (Or.inr ⟨by rfl, rfl⟩) hS3 ?_
    simp only [Act.put, List.getElem_toArray, List.getElem_cons_zero, List.getElem_cons_succ, List.setIfInBounds_toArray, List.set_cons_zero, List.set_cons_succ]
    refine wpAnyH_take (i := 7) (v := undef) rfl (by kernel_rfl) (by kernel_rfl) (by kernel_rfl) (fun _ _ _ h => h) (Or.inr ⟨by rfl, rfl⟩) hS3 ?_
    simp only [Act.put, List.getElem_toArray, List.getElem_cons_zero, List.getElem_cons_succ, List.setIfInBounds_toArray, List.set_cons_zero, List.set_cons_succ]
    refine wpAnyH_take (i := 8) (v := .bool false) rfl (by kernel_rfl) (by kernel_rfl) (by kernel_rfl) (fun _ _ _ h => h) (Or.inl ⟨by rfl, fun W' hS' => by go_simp⟩) hS3 ?_
    simp only [Act.put, List.getElem_toArray, List.getElem_cons_zero, List.getElem_cons_succ, List.setIfInBounds_toArray, List.set_cons_zero, List.set_cons_succ]
    refine wpAnyH_take (i := 9) (v := .bool false) rfl (by kernel_rfl) (by kernel_rfl) (by kernel_rfl) (fun _ _ _ h => h) (Or.inl ⟨by rfl, fun W' hS' => by go_simp⟩) hS3 ?_
    simp only [Act.put, List.getElem_toArray, List.getElem_cons_zero, List.getElem_cons_succ, List.setIfInBounds_toArray, List.set_cons_zero, List.set_cons_succ]
    refine wpAnyH_done (by kernel_rfl) ?_ _
    clear hS3 d3 d2 hd hbd b0
    go_wp2_with fail
    go_ret
    exact ⟨by rw [HE.out]; rfl, HB3.out⟩
  | true =>
    obtain ⟨rfl, hpp⟩ : b1 = false ∧ decide (0 < valL p) = true := by simpa using hc
    have HE := Lib.hid (show limB false p q = decide (valL p ≤ valL q) by rw [limB, hpp]; rfl)
    clear hc hpp
    refine wpAnyH_take (i := 3) (v := .bool true) rfl (by kernel_rfl) (by kernel_rfl) (by kernel_rfl) (fun _ _ _ h => h) (Or.inl ⟨by rfl, fun W' hS' => by go_simp⟩) hS3 ?_
    simp only [Act.put, List.getElem_toArray, List.getElem_cons_zero, List.getElem_cons_succ, List.setIfInBounds_toArray, List.set_cons_zero, List.set_cons_succ]
    refine wpAnyH_take (i := 4) (v := .agg #[.bool false, .slice A1 n1 c1, .bool false, .slice A2 n2 c2]) rfl (by kernel_rfl) (by kernel_rfl) (by kernel_rfl) (fun _ _ _ h => h) (Or.inl ⟨by rfl, fun W' hS' => by obtain ⟨q0, q1, q2, q3⟩ := hS'; go_simp⟩) hS3 ?_
    simp only [Act.put, List.getElem_toArray, List.getElem_cons_zero, List.getElem_cons_succ, List.setIfInBounds_toArray, List.set_cons_zero, List.set_cons_succ]
    refine wpAnyH_ready (rs := [5]) (by kernel_rfl) (by simp) ?_
    refine AllReadyH.cons rfl (fun Kq hKq => ?_) AllReadyH.nil
    simp only [List.getElem_toArray, List.getElem_cons_zero, List.getElem_cons_succ]
    go_simp
    refine (rInt10_ok 1 (by omega) _).mono ?_
    rintro e W4 hp4
    obtain ⟨p2, q2, A3, A4, n3, c3, n4, c4, rfl, hr, hpv, hqv, hb4⟩ := hp4.r10
    have d4 := d3.below hb4 d3.lt
    have HB4 := Lib.hid (HB3.out.trans (hb4.mono HB3.out.size))
    have HM2 := Lib.hid (HM.out W4 A3 A4 n3 c3 n4 c4 p2 q2 HB4.out (hr (by omega)))
    rw [hpv, hqv, limB_second] at HM2
    refine hKq.out _ _ ⟨d4.cell 0, d4.cell 1, d4.cell 2, d4.cell 3⟩ (fun _ => ?_)
    clear hKq Kq hp4 hr hpv hqv hb4
    refine wpAnyH_ready (rs := [6]) (by kernel_rfl) (by simp) ?_
    refine AllReadyH.cons rfl (fun Kq hKq => ?_) AllReadyH.nil
    simp only [List.getElem_toArray, List.getElem_cons_zero, List.getElem_cons_succ]
    go_simp
    refine HM2.out.mono ?_
    rintro e W5 ⟨rfl, hb5⟩
    have d5 := d4.below hb5 d4.lt
    have HB5 := Lib.hid (HB4.out.trans (hb5.mono HB4.out.size))
    have hS5 : W5.cell? ⟨w.heap.size, 0, none⟩ = some (.bool false) ∧ W5.cell? ⟨w.heap.size, 1, none⟩ = some (.slice A1 n1 c1) ∧ W5.cell? ⟨w.heap.size, 2, none⟩ = some (.bool false) ∧ W5.cell? ⟨w.heap.size, 3, none⟩ = some (.slice A2 n2 c2) := ⟨d5.cell 0, d5.cell 1, d5.cell 2, d5.cell 3⟩
    refine hKq.out _ _ hS5 (fun _ => ?_)
    clear hKq Kq hb5 HM2
    obtain ⟨r, hr⟩ : ∃ r, r = decide (valL p ≤ valL q) := ⟨_, rfl⟩
    rw [← hr] at HE ⊢
    clear hr
    refine wpAnyH_take (i := 7) (v := .bool r) rfl (by kernel_rfl) (by kernel_rfl) (by kernel_rfl) (fun _ _ _ h => h) (Or.inl ⟨by rfl, fun W' hS' => by cases r <;> go_simp⟩) hS5 ?_
    simp only [Act.put, List.getElem_toArray, List.getElem_cons_zero, List.getElem_cons_succ, List.setIfInBounds_toArray, List.set_cons_zero, List.set_cons_succ]
    refine wpAnyH_take (i := 8) (v := .bool r) rfl (by kernel_rfl) (by kernel_rfl) (by kernel_rfl) (fun _ _ _ h => h) (Or.inl ⟨by rfl, fun W' hS' => by go_simp⟩) hS5 ?_
    simp only [Act.put, List.getElem_toArray, List.getElem_cons_zero, List.getElem_cons_succ, List.setIfInBounds_toArray, List.set_cons_zero, List.set_cons_succ]
    refine wpAnyH_take (i := 9) (v := .bool r) rfl (by kernel_rfl) (by kernel_rfl) (by kernel_rfl) (fun _ _ _ h => h) (Or.inl ⟨by rfl, fun W' hS' => by go_simp⟩) hS5 ?_
    simp only [Act.put, List.getElem_toArray, List.getElem_cons_zero, List.getElem_cons_succ, List.setIfInBounds_toArray, List.set_cons_zero, List.set_cons_succ]
    refine wpAnyH_done (by kernel_rfl) ?_ _
    clear hS3 hS5 d5 d4 d3 d2 hd hbd b0
    go_wp2_with fail
    go_ret
    exact ⟨by rw [HE.out]; rfl, HB5.out⟩
end Go.Proofs.YtkkcbkfpaoldmaaGreatDoor

/- Walks: podiumref16.Right, On, podiumref54.Marks, slices.Contains, combine.right, Better. -/
namespace Go.Proofs.YtkkcbkfpaoldmaaGreatDoor
open Go Go.RowKit

/-- The cells of a criterion. -/
abbrev critC (s : ByteArray) (lo hi st ho tr : Int) (rv : Bool) : Array Value := #[.string s, .int .i64 lo, .int .i64 hi, .int .i64 st, .int .i64 ho, .int .i64 tr, .bool rv]
/-- A criterion that is right. -/
structure CrOk (lo hi st ho tr : Int) : Prop where
  l0 : 0 ≤ lo
  lh : lo < hi
  h1 : hi ≤ 1000
  s1 : 1 ≤ st
  md : (hi - lo) % st = 0
  o1 : 1 ≤ ho
  o3 : ho ≤ 3
  tr : tr = 0 ∨ (ho = 2 ∧ 0 < tr ∧ tr ≤ 127)
/-- A truth value that says whether P holds. -/
def BPost (P : Prop) (w : World) (e : Ending) (w' : World) : Prop := ∃ r : Bool, e = .returned (.bool r) ∧ (r = true ↔ P) ∧ Below w.heap.size w w'
set_option maxRecDepth 100000 in
set_option linter.unusedSimpArgs false in
set_option linter.unusedVariables false in
set_option maxHeartbeats 4000000 in
theorem right16_any (s : ByteArray) (lo hi st ho tr : Int) (rv : Bool) (w : World) : Calls Tryz.prog 5 #[.agg (critC s lo hi st ho tr rv)] w (BPost (CrOk lo hi st ho tr) w) := by
  by_cases c1 : lo < 0
  · have g1 : decide (lo < 0) = true := decide_eq_true c1
    have HN := Lib.hid (show ¬ CrOk lo hi st ho tr from fun h => by have := h.l0; omega)
    go_enter Tryz.func5, Tryz.ntmps5
    go_wp2_with fail
    go_ret
    exact ⟨false, rfl, ⟨(fun h => by cases h), fun h => absurd h HN.out⟩, (Below.refl _ w).alloc (Nat.le_refl _) _⟩
  have g1 : decide (lo < 0) = false := decide_eq_false c1
  by_cases c2 : hi ≤ lo
  · have g2 : decide (hi ≤ lo) = true := decide_eq_true c2
    have HN := Lib.hid (show ¬ CrOk lo hi st ho tr from fun h => by have := h.lh; omega)
    go_enter Tryz.func5, Tryz.ntmps5
    go_wp2_with fail
    go_ret
    exact ⟨false, rfl, ⟨(fun h => by cases h), fun h => absurd h HN.out⟩, (Below.refl _ w).alloc (Nat.le_refl _) _⟩
  have g2 : decide (hi ≤ lo) = false := decide_eq_false c2
  by_cases c3 : 1000 < hi
  · have g3 : decide (1000 < hi) = true := decide_eq_true c3
    have HN := Lib.hid (show ¬ CrOk lo hi st ho tr from fun h => by have := h.h1; omega)
    go_enter Tryz.func5, Tryz.ntmps5
    go_wp2_with fail
    go_ret
    exact ⟨false, rfl, ⟨(fun h => by cases h), fun h => absurd h HN.out⟩, (Below.refl _ w).alloc (Nat.le_refl _) _⟩
  have g3 : decide (1000 < hi) = false := decide_eq_false c3
  by_cases c4 : st < 1
  · have g4 : decide (st < 1) = true := decide_eq_true c4
    have HN := Lib.hid (show ¬ CrOk lo hi st ho tr from fun h => by have := h.s1; omega)
    go_enter Tryz.func5, Tryz.ntmps5
    go_wp2_with fail
    go_ret
    exact ⟨false, rfl, ⟨(fun h => by cases h), fun h => absurd h HN.out⟩, (Below.refl _ w).alloc (Nat.le_refl _) _⟩
  have g4 : decide (st < 1) = false := decide_eq_false c4
  have hw : wrap64 (hi - lo) = hi - lo := wrap_in _ (by omega)
  obtain ⟨m, hm⟩ : ∃ m, m = Int.tmod (hi - lo) st := ⟨_, rfl⟩
  have hmm : m = (hi - lo) % st := by rw [hm]; exact Int.tmod_eq_emod_of_nonneg (by omega)
  have f5 : Int.tmod (hi - lo) st = m := hm.symm
  have s0 : (st == 0) = false := beq_eq_false_iff_ne.2 (by omega)
  have s0n : ¬ st = 0 := by omega
  clear hm
  by_cases c5 : m = 0
  rotate_left
  · have g5 : (m != 0) = true := bne_iff_ne.2 c5
    have g5n : (m == 0) = false := beq_eq_false_iff_ne.2 c5
    have HN := Lib.hid (show ¬ CrOk lo hi st ho tr from fun h => by have := h.md; omega)
    clear c5 hmm
    go_enter Tryz.func5, Tryz.ntmps5
    go_wp2_with fail
    go_ret
    exact ⟨false, rfl, ⟨(fun h => by cases h), fun h => absurd h HN.out⟩, (Below.refl _ w).alloc (Nat.le_refl _) _⟩
  have g5 : (m != 0) = false := by rw [c5]; rfl
  have g5n : (m == 0) = true := beq_iff_eq.2 c5
  have HMD := Lib.hid (show (hi - lo) % st = 0 by rw [← hmm]; exact c5)
  clear c5 hmm
  by_cases c6 : ho < 1
  · have g6 : decide (ho < 1) = true := decide_eq_true c6
    have HN := Lib.hid (show ¬ CrOk lo hi st ho tr from fun h => by have := h.o1; omega)
    go_enter Tryz.func5, Tryz.ntmps5
    go_wp2_with fail
    go_ret
    exact ⟨false, rfl, ⟨(fun h => by cases h), fun h => absurd h HN.out⟩, (Below.refl _ w).alloc (Nat.le_refl _) _⟩
  have g6 : decide (ho < 1) = false := decide_eq_false c6
  by_cases c7 : 3 < ho
  · have g7 : decide (3 < ho) = true := decide_eq_true c7
    have HN := Lib.hid (show ¬ CrOk lo hi st ho tr from fun h => by have := h.o3; omega)
    go_enter Tryz.func5, Tryz.ntmps5
    go_wp2_with fail
    go_ret
    exact ⟨false, rfl, ⟨(fun h => by cases h), fun h => absurd h HN.out⟩, (Below.refl _ w).alloc (Nat.le_refl _) _⟩
  have g7 : decide (3 < ho) = false := decide_eq_false c7
  by_cases c8 : tr = 0
  · have g8 : (tr == 0) = true := beq_iff_eq.2 c8
    have HP := Lib.hid (show CrOk lo hi st ho tr from ⟨by omega, by omega, by omega, by omega, HMD.out, by omega, by omega, .inl c8⟩)
    clear c8
    go_enter Tryz.func5, Tryz.ntmps5
    go_wp2_with fail
    go_ret
    exact ⟨true, rfl, ⟨fun _ => HP.out, fun _ => rfl⟩, (Below.refl _ w).alloc (Nat.le_refl _) _⟩
  have g8 : (tr == 0) = false := beq_eq_false_iff_ne.2 c8
  by_cases c9 : ho = 2
  rotate_left
  · have g9 : (ho == 2) = false := beq_eq_false_iff_ne.2 c9
    have HN := Lib.hid (show ¬ CrOk lo hi st ho tr from fun h => by rcases h.tr with h | h <;> omega)
    go_enter Tryz.func5, Tryz.ntmps5
    go_wp2_with fail
    go_ret
    exact ⟨false, rfl, ⟨(fun h => by cases h), fun h => absurd h HN.out⟩, (Below.refl _ w).alloc (Nat.le_refl _) _⟩
  have g9 : (ho == 2) = true := beq_iff_eq.2 c9
  by_cases c10 : 0 < tr
  rotate_left
  · have g10 : decide (0 < tr) = false := decide_eq_false c10
    have HN := Lib.hid (show ¬ CrOk lo hi st ho tr from fun h => by rcases h.tr with h | h <;> omega)
    clear c9
    go_enter Tryz.func5, Tryz.ntmps5
    go_wp2_with fail
    go_ret
    exact ⟨false, rfl, ⟨(fun h => by cases h), fun h => absurd h HN.out⟩, (Below.refl _ w).alloc (Nat.le_refl _) _⟩
  have g10 : decide (0 < tr) = true := decide_eq_true c10
  by_cases c11 : tr ≤ 127
  rotate_left
  · have g11 : decide (tr ≤ 127) = false := decide_eq_false c11
    have HN := Lib.hid (show ¬ CrOk lo hi st ho tr from fun h => by rcases h.tr with h | h <;> omega)
    clear c9
    go_enter Tryz.func5, Tryz.ntmps5
    go_wp2_with fail
    go_ret
    exact ⟨false, rfl, ⟨(fun h => by cases h), fun h => absurd h HN.out⟩, (Below.refl _ w).alloc (Nat.le_refl _) _⟩
  have g11 : decide (tr ≤ 127) = true := decide_eq_true c11
  have HP := Lib.hid (show CrOk lo hi st ho tr from ⟨by omega, by omega, by omega, by omega, HMD.out, by omega, by omega, .inr ⟨c9, c10, c11⟩⟩)
  clear c8 c9 c10 c11
  go_enter Tryz.func5, Tryz.ntmps5
  go_wp2_with fail
  go_ret
  exact ⟨true, rfl, ⟨fun _ => HP.out, fun _ => rfl⟩, (Below.refl _ w).alloc (Nat.le_refl _) _⟩
/-- A mark on the scale. -/
def OnSc (lo hi st n : Int) : Prop := lo ≤ n ∧ n ≤ hi ∧ (n - lo) % st = 0
instance (lo hi st n : Int) : Decidable (OnSc lo hi st n) := inferInstanceAs (Decidable (_ ∧ _))
set_option maxRecDepth 100000 in
set_option linter.unusedSimpArgs false in
set_option linter.unusedVariables false in
set_option maxHeartbeats 4000000 in
theorem on16_any (s : ByteArray) (lo hi st ho tr : Int) (rv : Bool) (hc : CrOk lo hi st ho tr) (n : Int) (w : World) : Calls Tryz.prog 34 #[.agg (critC s lo hi st ho tr rv), .int .i64 n] w (Ret (.bool (decide (OnSc lo hi st n))) w) := by
  have k1 := hc.l0
  have k2 := hc.lh
  have k3 := hc.h1
  have k4 := hc.s1
  have s0 : (st == 0) = false := beq_eq_false_iff_ne.2 (by omega)
  have s0n : ¬ st = 0 := by omega
  clear hc
  by_cases c1 : lo ≤ n
  rotate_left
  · have g1 : decide (lo ≤ n) = false := decide_eq_false c1
    rw [show decide (OnSc lo hi st n) = false from decide_eq_false fun h => c1 h.1]
    go_enter Tryz.func34, Tryz.ntmps34
    go_wp2_with fail
    go_ret
    exact ⟨rfl, (Below.refl _ w).alloc (Nat.le_refl _) _⟩
  have g1 : decide (lo ≤ n) = true := decide_eq_true c1
  by_cases c2 : n ≤ hi
  rotate_left
  · have g2 : decide (n ≤ hi) = false := decide_eq_false c2
    rw [show decide (OnSc lo hi st n) = false from decide_eq_false fun h => c2 h.2.1]
    go_enter Tryz.func34, Tryz.ntmps34
    go_wp2_with fail
    go_ret
    exact ⟨rfl, (Below.refl _ w).alloc (Nat.le_refl _) _⟩
  have g2 : decide (n ≤ hi) = true := decide_eq_true c2
  have hw : wrap64 (n - lo) = n - lo := wrap_in _ (by omega)
  obtain ⟨m, hm⟩ : ∃ m, m = Int.tmod (n - lo) st := ⟨_, rfl⟩
  have hmm : m = (n - lo) % st := by rw [hm]; exact Int.tmod_eq_emod_of_nonneg (by omega)
  have f5 : Int.tmod (n - lo) st = m := hm.symm
  obtain ⟨r, hr⟩ : ∃ r, r = (m == 0) := ⟨_, rfl⟩
  have f6 : (m == 0) = r := hr.symm
  have e : decide (OnSc lo hi st n) = r := by
    rw [hr]
    by_cases h : m = 0
    · rw [h, show ((0 : Int) == 0) = true from rfl]
      exact decide_eq_true ⟨c1, c2, by rw [← hmm]; exact h⟩
    · rw [beq_eq_false_iff_ne.2 h]
      exact decide_eq_false fun k => h (by rw [hmm]; exact k.2.2)
  rw [e]
  clear hm hmm hr e
  go_enter Tryz.func34, Tryz.ntmps34
  go_wp2_with fail
  go_ret
  exact ⟨by simp, (Below.refl _ w).alloc (Nat.le_refl _) _⟩
/-- How many marks there are. -/
def marksN (lo hi st : Int) : Int := (hi - lo) / st + 1
theorem marks_range {lo hi st ho tr : Int} (h : CrOk lo hi st ho tr) : 2 ≤ marksN lo hi st ∧ marksN lo hi st ≤ 1001 ∧ (marksN lo hi st - 1) * st = hi - lo := by
  have k1 := h.l0
  have k2 := h.lh
  have k3 := h.h1
  have k4 := h.s1
  have e : (hi - lo) / st * st = hi - lo := by
    have := Int.emod_add_mul_ediv (hi - lo) st
    rw [h.md, Int.zero_add, Int.mul_comm] at this
    exact this
  have h1 : 0 ≤ (hi - lo) / st := Int.ediv_nonneg (by omega) (by omega)
  have h2 : (hi - lo) / st ≤ hi - lo := Int.ediv_le_self _ (by omega)
  unfold marksN
  refine ⟨?_, by omega, by rw [Int.add_sub_cancel]; exact e⟩
  by_cases h3 : (hi - lo) / st < 1
  · have h4 : (hi - lo) / st = 0 := by omega
    rw [h4] at e
    omega
  · omega
set_option maxRecDepth 100000 in
set_option linter.unusedSimpArgs false in
set_option linter.unusedVariables false in
set_option maxHeartbeats 4000000 in
theorem marks54_ok (s : ByteArray) (lo hi st ho tr : Int) (rv : Bool) (hc : CrOk lo hi st ho tr) (w : World) : Calls Tryz.prog 36 #[.agg (critC s lo hi st ho tr rv)] w (Ret (.int .i64 (marksN lo hi st)) w) := by
  have k1 := hc.l0
  have k2 := hc.lh
  have k3 := hc.h1
  have k4 := hc.s1
  have k5 := marks_range hc
  have s0 : (st == 0) = false := beq_eq_false_iff_ne.2 (by omega)
  have s0n : ¬ st = 0 := by omega
  have hw : wrap64 (hi - lo) = hi - lo := wrap_in _ (by omega)
  obtain ⟨m, hm⟩ : ∃ m, m = Int.tdiv (hi - lo) st := ⟨_, rfl⟩
  have hmm : marksN lo hi st = m + 1 := by rw [hm, Int.tdiv_eq_ediv_of_nonneg (by omega)]; rfl
  have f5 : Int.tdiv (hi - lo) st = m := hm.symm
  rw [hmm] at k5 ⊢
  have k6 := k5.1
  have k7 := k5.2.1
  clear hm hmm hc k5
  go_enter Tryz.func36, Tryz.ntmps36
  go_wp2_with fail
  go_ret
  exact ⟨rfl, (Below.refl _ w).alloc (Nat.le_refl _) _⟩
set_option maxRecDepth 100000 in
set_option linter.unusedSimpArgs false in
set_option linter.unusedVariables false in
set_option maxHeartbeats 4000000 in
theorem index3_ok (g : Nat) (ho : Int) (h1 : 1 ≤ ho) (h3 : ho ≤ 3) (w : World) (hg : Blk w g 3 #[.int .i64 1, .int .i64 2, .int .i64 3]) : Calls Tryz.prog 108 #[.slice (some ⟨g, 0, none⟩) 3 3, .int .i64 ho] w (Ret (.int .i64 (ho - 1)) w) := by
  have c0 : w.cell? ⟨g, 0, none⟩ = some (.int .i64 1) := hg.cell 0
  have c1 : w.cell? ⟨g, 1, none⟩ = some (.int .i64 2) := hg.cell 1
  have c2 : w.cell? ⟨g, 2, none⟩ = some (.int .i64 3) := hg.cell 2
  go_enter Tryz.func108, Tryz.ntmps108
  go_wp2_with fail
  go_loopw [8] (fun i wr => ∃ k : Nat, (k : Int) < ho ∧ i = .int .i64 k ∧ wr = w) (fun i _ => 3 - (intOf i).toNat)
  case atStart => exact ⟨0, by omega, rfl, rfl⟩
  case round =>
    obtain ⟨k, hk, rfl, rfl⟩ := hrel
    rcases k with _ | _ | _ | k
    · by_cases e : ho = 1
      · subst e
        go_wp2_with fail
        go_ret
        exact ⟨rfl, Below.refl _ _⟩
      · have g1 : (ho == 1) = false := beq_eq_false_iff_ne.2 e
        go_wp2_with fail
        go_roundw
        case rel => exact ⟨1, by omega, by go_num, by first | trivial | rfl⟩
        case measure => simp [intOf]
    · by_cases e : ho = 2
      · subst e
        go_wp2_with fail
        go_ret
        exact ⟨rfl, Below.refl _ _⟩
      · have g1 : (ho == 2) = false := beq_eq_false_iff_ne.2 e
        go_wp2_with fail
        go_roundw
        case rel => exact ⟨2, by omega, by go_num, by first | trivial | rfl⟩
        case measure => simp [intOf]
    · obtain rfl : ho = 3 := by omega
      go_wp2_with fail
      go_ret
      exact ⟨rfl, Below.refl _ _⟩
    · omega
set_option maxRecDepth 100000 in
set_option linter.unusedSimpArgs false in
set_option linter.unusedVariables false in
set_option maxHeartbeats 4000000 in
theorem contains3_ok (g : Nat) (ho : Int) (h1 : 1 ≤ ho) (h3 : ho ≤ 3) (w : World) (hg : Blk w g 3 #[.int .i64 1, .int .i64 2, .int .i64 3]) : Calls Tryz.prog 91 #[.slice (some ⟨g, 0, none⟩) 3 3, .int .i64 ho] w (Ret (.bool true) w) := by
  have H := Lib.hid (index3_ok g ho h1 h3 w hg)
  have g1 : decide ((0 : Int) ≤ ho - 1) = true := decide_eq_true (by omega)
  clear hg
  go_enter Tryz.func91, Tryz.ntmps91
  go_wp2_with fail
  refine H.out.mono ?_
  rintro e w1 ⟨rfl, hb1⟩
  go_wp2_with fail
  go_ret
  exact ⟨by first | rfl | simp, hb1⟩
set_option maxRecDepth 100000 in
set_option linter.unusedSimpArgs false in
set_option linter.unusedVariables false in
set_option maxHeartbeats 4000000 in
theorem cright_ok (s : ByteArray) (lo hi st ho tr : Int) (rv : Bool) (hc : CrOk lo hi st ho tr) (w : World) : Calls Tryz.prog 63 #[.agg (critC s lo hi st ho tr rv)] w (Ret (.bool true) w) := by
  have k1 := hc.l0
  have k2 := hc.lh
  have k3 := hc.h1
  have k4 := hc.s1
  have k5 := hc.o1
  have k6 := hc.o3
  have g1 : decide (lo < 0) = false := decide_eq_false (by omega)
  have g2 : decide (hi ≤ lo) = false := decide_eq_false (by omega)
  have g3 : decide (1000 < hi) = false := decide_eq_false (by omega)
  have g4 : decide (st < 1) = false := decide_eq_false (by omega)
  have g5 : decide (tr < 0) = false := decide_eq_false (by rcases hc.tr with h | h <;> omega)
  have g6 : decide (127 < tr) = false := decide_eq_false (by rcases hc.tr with h | h <;> omega)
  have s0 : (st == 0) = false := beq_eq_false_iff_ne.2 (by omega)
  have s0n : ¬ st = 0 := by omega
  have hw : wrap64 (hi - lo) = hi - lo := wrap_in _ (by omega)
  have f5 : Int.tmod (hi - lo) st = 0 := by rw [Int.tmod_eq_emod_of_nonneg (by omega)]; exact hc.md
  have HI := Lib.hid (fun W g (hg : Blk W g 3 #[.int .i64 1, .int .i64 2, .int .i64 3]) => contains3_ok g ho k5 k6 W hg)
  by_cases c9 : ho = 2
  · have g9 : (ho == 2) = true := beq_iff_eq.2 c9
    have g9b : (ho != 2) = false := by rw [c9]; rfl
    clear hc c9
    go_enter Tryz.func63, Tryz.ntmps63
    go_wp2_with fail
    refine calls_gen (fun W => Blk W w.heap.size 23 (critC s lo hi st ho tr rv) ∧ Blk W (w.heap.size + 1) 3 #[.int .i64 1, .int .i64 2, .int .i64 3] ∧ Below w.heap.size w W) ⟨(Blk.new _ _ _).alloc _, Blk.new' _ _ _ (by simp), ((Below.refl _ w).alloc (Nat.le_refl _) _).alloc (by simp) _⟩ (fun W0 ⟨b0, b1, hB0⟩ => ?_)
    refine (HI.out W0 _ b1).mono ?_
    rintro e w1 ⟨rfl, hb1⟩
    have d0 := b0.below hb1 b0.lt
    have x1 : w1.cell? ⟨w.heap.size, 1, none⟩ = some (.int .i64 lo) := d0.cell 1
    have x2 : w1.cell? ⟨w.heap.size, 2, none⟩ = some (.int .i64 hi) := d0.cell 2
    have x3 : w1.cell? ⟨w.heap.size, 3, none⟩ = some (.int .i64 st) := d0.cell 3
    have HB1 := Lib.hid (hB0.trans (hb1.mono hB0.size))
    clear b0 b1 hB0 hb1 d0
    go_wp2_with fail
    go_ret
    exact ⟨rfl, HB1.out⟩
  · have g9 : (ho == 2) = false := beq_eq_false_iff_ne.2 c9
    have g9b : (ho != 2) = true := bne_iff_ne.2 c9
    have ht : tr = 0 := by rcases hc.tr with h | h <;> omega
    subst ht
    clear hc c9
    go_enter Tryz.func63, Tryz.ntmps63
    go_wp2_with fail
    refine calls_gen (fun W => Blk W w.heap.size 23 (critC s lo hi st ho 0 rv) ∧ Blk W (w.heap.size + 1) 3 #[.int .i64 1, .int .i64 2, .int .i64 3] ∧ Below w.heap.size w W) ⟨(Blk.new _ _ _).alloc _, Blk.new' _ _ _ (by simp), ((Below.refl _ w).alloc (Nat.le_refl _) _).alloc (by simp) _⟩ (fun W0 ⟨b0, b1, hB0⟩ => ?_)
    refine (HI.out W0 _ b1).mono ?_
    rintro e w1 ⟨rfl, hb1⟩
    have d0 := b0.below hb1 b0.lt
    have x1 : w1.cell? ⟨w.heap.size, 1, none⟩ = some (.int .i64 lo) := d0.cell 1
    have x2 : w1.cell? ⟨w.heap.size, 2, none⟩ = some (.int .i64 hi) := d0.cell 2
    have x3 : w1.cell? ⟨w.heap.size, 3, none⟩ = some (.int .i64 st) := d0.cell 3
    have HB1 := Lib.hid (hB0.trans (hb1.mono hB0.size))
    clear b0 b1 hB0 hb1 d0
    go_wp2_with fail
    go_ret
    exact ⟨rfl, HB1.out⟩
/-- The better mark. -/
def bet (lo hi : Int) (rv : Bool) (n : Int) : Int := if rv then lo + hi - n else n
set_option maxRecDepth 100000 in
set_option linter.unusedSimpArgs false in
set_option linter.unusedVariables false in
set_option maxHeartbeats 4000000 in
theorem better_ok (s : ByteArray) (lo hi st ho tr : Int) (rv : Bool) (hc : CrOk lo hi st ho tr) (n : Int) (hn : OnSc lo hi st n) (w : World) : Calls Tryz.prog 35 #[.agg (critC s lo hi st ho tr rv), .int .i64 n] w (Ret (.tuple #[.int .i64 (bet lo hi rv n), .int .i64 0]) w) := by
  have k1 := hc.l0
  have k2 := hc.lh
  have k3 := hc.h1
  have k4 := hc.s1
  have k5 := hn.1
  have k6 := hn.2.1
  have g1 : decide (n < lo) = false := decide_eq_false (by omega)
  have g2 : decide (hi < n) = false := decide_eq_false (by omega)
  have s0 : (st == 0) = false := beq_eq_false_iff_ne.2 (by omega)
  have s0n : ¬ st = 0 := by omega
  have hw : wrap64 (n - lo) = n - lo := wrap_in _ (by omega)
  have f5 : Int.tmod (n - lo) st = 0 := by rw [Int.tmod_eq_emod_of_nonneg (by omega)]; exact hn.2.2
  have HR := Lib.hid (fun W => cright_ok s lo hi st ho tr rv hc W)
  clear hc hn
  go_enter Tryz.func35, Tryz.ntmps35
  go_wp2_with fail
  refine calls_gen (fun W => Blk W w.heap.size 23 (critC s lo hi st ho tr rv) ∧ Below w.heap.size w W) ⟨Blk.new _ _ _, (Below.refl _ w).alloc (Nat.le_refl _) _⟩ (fun W0 ⟨b0, hB0⟩ => ?_)
  refine (HR.out W0).mono ?_
  rintro e w1 ⟨rfl, hb1⟩
  have d0 := b0.below hb1 b0.lt
  have x1 : w1.cell? ⟨w.heap.size, 1, none⟩ = some (.int .i64 lo) := d0.cell 1
  have x2 : w1.cell? ⟨w.heap.size, 2, none⟩ = some (.int .i64 hi) := d0.cell 2
  have x3 : w1.cell? ⟨w.heap.size, 3, none⟩ = some (.int .i64 st) := d0.cell 3
  have x6 : w1.cell? ⟨w.heap.size, 6, none⟩ = some (.bool rv) := d0.cell 6
  have HB1 := Lib.hid (hB0.trans (hb1.mono hB0.size))
  clear b0 hB0 hb1 d0
  cases rv with
  | true =>
    go_wp2_with fail
    go_ret2
    exact ⟨rfl, HB1.out⟩
  | false =>
    go_wp2_with fail
    go_ret2
    exact ⟨rfl, HB1.out⟩
end Go.Proofs.YtkkcbkfpaoldmaaGreatDoor

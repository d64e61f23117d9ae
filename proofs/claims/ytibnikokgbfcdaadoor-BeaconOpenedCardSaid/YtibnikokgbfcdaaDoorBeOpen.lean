/- The law podiumlaw31.BeaconOpened: for all values and every choice of who opens she returns true. -/
import Derived.Test.YtibnikokgbfcdaaDoorB10
import Derived.Test.YtibnikokgbfcdaaDoorBO
namespace Go.Proofs.YtibnikokgbfcdaaDoor
open Go Go.RowKit

/-- Two rows of the call's own lie apart. -/
def Apart (u v : Value) : Prop := ∀ g, u.ownBlock = some g → v.ownBlock ≠ some g
theorem Apart.symm {u v : Value} (h : Apart u v) : Apart v u := fun g e e2 => h g e2 e
theorem Apart.grew {w w' : World} {u u' v : Value} (h : Apart u v) (hg : Grew w w' u u') (hv : ∀ g, v.ownBlock = some g → g < w.heap.size) : Apart u' v := fun g e e2 => by
  rcases hg.own g e with h1 | h1
  · exact h g h1 e2
  · have := hv g e2; omega
theorem Apart.nil0 (v : Value) : Apart (.slice none 0 0) v := fun g e => by
  have e2 : (none : Option Nat) = some g := e
  cases e2
theorem Apart.or {u v : Value} (h : Apart u v) : v.ownBlock = none ∨ v.ownBlock ≠ u.ownBlock := own_apart h
theorem bit32 (a t : Nat) (ha : a < 4294967296) : (bits .and .u32 ((a : Int) / 2 ^ t) 1 == 1) = decide (a / 2 ^ t % 2 = 1) := by
  have e0 : ((a : Int) / 2 ^ t) = ((a / 2 ^ t : Nat) : Int) := by simp [Int.natCast_ediv, Int.natCast_pow]
  rw [e0]
  have hc : a / 2 ^ t < 4294967296 := Nat.lt_of_le_of_lt (Nat.div_le_self _ _) ha
  generalize a / 2 ^ t = c at hc
  have h : bits .and .u32 (c : Int) 1 = ((c % 2 : Nat) : Int) := by
    show IntKind.u32.wrap ((BitVec.ofInt 32 (c : Int) &&& BitVec.ofInt 32 1).toNat : Int) = _
    rw [BitVec.toNat_and, BitVec.toNat_ofInt, BitVec.toNat_ofInt]
    have e1 : ((c : Int) % ((2 ^ 32 : Nat) : Int)).toNat = c := by omega
    have e2 : ((1 : Int) % ((2 ^ 32 : Nat) : Int)).toNat = 1 := by decide
    rw [e1, e2, Nat.and_one_is_mod]
    have : c % 2 < 2 := Nat.mod_lt _ (by omega)
    generalize c % 2 = r at this
    rcases r with _ | _ | r
    · decide
    · decide
    · omega
  rw [h]
  rcases Nat.mod_two_eq_zero_or_one c with e | e <;> rw [e] <;> decide
theorem madeL_32 (l : List (List UInt8)) (k : Nat) : Dg32 (madeL l k) := fun p hp => by
  obtain ⟨i, -, rfl⟩ := List.mem_map.1 hp
  exact commitOf_length _ _
theorem shownL_32 {l : List (List UInt8)} (h : ∀ x ∈ l, x.length = 32) (b : Nat → Bool) {k : Nat} (hk : k ≤ l.length) : Dg32 (shownL l b k) := fun p hp => by
  obtain ⟨i, hi, rfl⟩ := List.mem_map.1 hp
  have := List.mem_range.1 (List.mem_filter.1 hi).1
  show (l.getD i []).length = 32
  rw [List.getD_eq_getElem?_getD, List.getElem?_eq_getElem (by omega)]
  exact h _ (List.getElem_mem _)
theorem DRd.all32 {w : World} {B : Nat} {A : Option Addr} {l : List (List UInt8)} (h : DRd w B A l) : ∀ x ∈ l, x.length = 32 := fun x hx => by
  obtain ⟨k, hk, rfl⟩ := List.mem_iff_getElem.1 hx
  obtain ⟨b, off, -, -, hc⟩ := h (by omega)
  exact (hc k _ (List.getElem?_eq_getElem hk)).1
theorem madeL_len (l : List (List UInt8)) (k : Nat) : (madeL l k).length = k := by simp [madeL]
theorem shownL_le (l : List (List UInt8)) (b : Nat → Bool) (k : Nat) : (shownL l b k).length ≤ k := by
  rw [shownL, List.length_map]
  have := List.length_filter_le b (List.range k)
  simpa using this
theorem hiddenL_le (b : Nat → Bool) (k : Nat) : (hiddenL b k).length ≤ k := by
  rw [hiddenL, List.length_map]
  have := List.length_filter_le (fun i => !b i) (List.range k)
  simpa using this
set_option linter.unusedVariables false in
theorem madeL_ints (l : List (List UInt8)) (k : Nat) (hk : k ≤ 24) : PdInts (madeL l k) := fun x hx => by
  have := (madeL_form l k hk).range hx
  omega
theorem shownL_ints (l : List (List UInt8)) (b : Nat → Bool) (k : Nat) (hk : k ≤ 24) : PdInts (shownL l b k) := fun x hx => by
  have := (shownL_form l b k hk).range hx
  omega
def OpRel (w : World) (l : List (List UInt8)) (b : Nat → Bool) (n : Nat) (lv mv wv jj : Value) (wr : World) : Prop :=
  ∃ t : Nat, t ≤ n ∧ jj = .int .i64 t ∧ POwn 61 wr w.heap.size lv (madeL l t) ∧ POwn 69 wr w.heap.size mv (shownL l b t) ∧ IOwn wr w.heap.size wv (hiddenL b t) ∧ Apart lv mv ∧ Apart lv wv ∧ Apart mv wv ∧ Below w.heap.size w wr
set_option maxRecDepth 100000 in
set_option linter.unusedSimpArgs false in
set_option linter.unusedVariables false in
set_option maxHeartbeats 8000000 in
theorem opened_good (A : Option Addr) (l : List (List UInt8)) (n c : Nat) (hn : n = l.length) (h24 : n ≤ 24) (a : Nat) (ha : a < 4294967296) (w : World) (hL : Laid w) (hA : DRd w w.heap.size A l) : Calls Tryd.prog 18 #[.slice A n c, .int .u32 a] w (Ret (.bool true) w) := by
  have HS := Lib.hid (fun W h => sane31_ok W h)
  have HL := Lib.hid hL
  have HA := Lib.hid hA
  have HN := Lib.hid hn
  obtain ⟨b, hb⟩ : ∃ b : Nat → Bool, b = fun i => decide (a / 2 ^ i % 2 = 1) := ⟨_, rfl⟩
  have HBB := Lib.hid (show ∀ t : Nat, (bits .and .u32 ((a : Int) / 2 ^ t) 1 == 1) = b t from fun t => by rw [bit32 a t ha, hb])
  have H32 := Lib.hid hA.all32
  have g0 : decide ((24 : Int) < (n : Int)) = false := decide_eq_false (by omega)
  clear hL hA hn hb
  go_enter Tryd.func18, Tryd.ntmps18
  go_wp2_with fail
  refine (HS.out w HL.out).mono ?_
  rintro e w1 ⟨rfl, hb1⟩
  have HB1 := Lib.hid hb1
  clear hb1
  go_wp2_with fail
  go_loopw [5, 6, 7, 22] (fun lv mv wv jj wr => OpRel w1 l b n lv mv wv jj wr) (fun _ _ _ jj _ => n - (intOf jj).toNat)
  case atStart => exact ⟨0, by omega, rfl, POwn.nil _ _ _, POwn.nil _ _ _, IOwn.nil _ _, Apart.nil0 _, Apart.nil0 _, Apart.nil0 _, Below.refl _ _⟩
  case round =>
    obtain ⟨t, ht, rfl, hP, hR, hW, a1, a2, a3, hB⟩ := hrel
    have hz1 := hB.size
    have hBw := HB1.out.trans (hB.mono HB1.out.size)
    by_cases hlt : t < n
    · obtain ⟨bb, off, rfl, hbl, hvl, hrg⟩ := (HA.out.below hBw).at_ (k := t) (by rw [← HN.out]; exact hlt)
      obtain ⟨v, hv⟩ : ∃ v, v = l.getD t [] := ⟨_, rfl⟩
      rw [← hv] at hvl hrg
      have HMADE := Lib.hid (show madeL l (t + 1) = madeL l t ++ [⟨(t : Int), commitOf t v⟩] by rw [madeL_succ, hv])
      have HSHOWN := Lib.hid (show shownL l b (t + 1) = shownL l b t ++ if b t then [⟨(t : Int), v⟩] else [] by rw [shownL_succ, hv])
      have HRG := Lib.hid hrg
      have HP := Lib.hid hP
      have HR := Lib.hid hR
      have HW := Lib.hid hW
      have HBR := Lib.hid hB
      have HBW := Lib.hid hBw
      have hlP : ∀ g, u5.ownBlock = some g → w1.heap.size ≤ g ∧ g < wr.heap.size := fun g e => World.ownsRow.lt hP g e
      have hlR : ∀ g, u6.ownBlock = some g → w1.heap.size ≤ g ∧ g < wr.heap.size := fun g e => World.ownsRow.lt hR g e
      have hlW : ∀ g, u7.ownBlock = some g → w1.heap.size ≤ g ∧ g < wr.heap.size := fun g e => World.ownsRow.lt hW g e
      have HLP := Lib.hid hlP
      have HLR := Lib.hid hlR
      have HLW := Lib.hid hlW
      have A1 := Lib.hid a1
      have A2 := Lib.hid a2
      have A3 := Lib.hid a3
      clear hrg hP hR hW hB hBw hlP hlR hlW a1 a2 a3 hv
      go_wp2_with (first
        | (refine wpList_load_mid rfl 23 _ rfl bb (off + t * 32) rfl (dig v).toList _ HRG.out Tryd.underlying23 rfl (by rw [Array.length_toList]; exact dig_info _ hvl) ?_)
        | (refine store_dig_new rfl _ _ rfl wr _ _ v hvl rfl rfl rfl ?_)
        | (refine load_dig rfl _ rfl v hvl (Blk.new wr _ _) rfl ?_))
      refine calls_gen (fun W => Blk W wr.heap.size 23 (dig v) ∧ Below wr.heap.size wr W) ⟨Blk.new _ _ _, (Below.refl _ _).alloc (Nat.le_refl _) _⟩ (fun w2 ⟨bv2, hb2⟩ => ?_)
      refine (bMake_good t (by omega) v hvl w2 (HL.out.below (HBW.out.trans (hb2.mono HBW.out.size)))).mono ?_
      rintro e w3 ⟨rfl, hb3⟩
      have bv3 := bv2.below hb3 bv2.lt
      have hb13 := hb2.trans (hb3.mono hb2.size)
      have hcl := commitOf_length t v
      obtain ⟨C, hC⟩ : ∃ C, C = commitOf t v := ⟨_, rfl⟩
      rw [← hC] at hcl HMADE
      simp only [makeV]
      rw [← hC]
      clear bv2 hb2 hb3 hC
      go_upto_region 14 with (refine store_pd pledgeInfo rfl _ _ rfl (Blk.new' w3 61 _ rfl) ⟨(t : Int), C⟩ hcl rfl rfl rfl ?_; intro w4 bp4 hO hz; have hk4 : Below w3.heap.size w3 w4 := ((Below.refl _ w3).alloc (Nat.le_refl _) _).trans (hO.toBelow (by simp) (Nat.le_refl _)); clear hO hz)
      have hb14 := hb13.trans (hk4.mono hb13.size)
      have BV4 := Lib.hid (bv3.below hk4 bv3.lt)
      have BP4 := Lib.hid bp4
      have HP4 := Lib.hid (POwn.below HP.out hb14)
      have HR4 := Lib.hid (POwn.below HR.out hb14)
      have HW4 := Lib.hid (IOwn.below HW.out hb14)
      have HB4 := Lib.hid (HBR.out.trans (hb14.mono hz1))
      have hz4 := hb14.size
      have HPA := Lib.hid (POwn.alloc HP4.out (.cells (⟨(t : Int), C⟩ : Pd).cells.toArray 61))
      have hm1 : (madeL l t).length + 1 ≤ 1000000 := by rw [madeL_len]; omega
      have hbs : w1.heap.size ≤ (w4.alloc (.cells (⟨(t : Int), C⟩ : Pd).cells.toArray 61)).heap.size := by simp only [World.size_alloc]; omega
      have hv9 := BV4.out.lt
      clear bv3 hb13 hk4 hb14 bp4
      go_upto_region 15 with (first
        | (refine load_pd pledgeType pledgeInfo rfl _ rfl w3.heap.size 0 ⟨(t : Int), C⟩ ⟨hcl, rangeAt_of_blk_toArray BP4.out⟩ rfl ?_)
        | (refine bslp1 rfl _ rfl ⟨(t : Int), C⟩ hcl rfl ?_)
        | (at_builtin; refine app_pd Tryd.underlying58 pledgeI_all rfl _ _ rfl w1.heap.size u5 (madeL l t) rfl HPA.out ⟨(t : Int), C⟩ hcl (Blk.new _ _ _) rfl hm1 hbs ?_; intro v5 w5 hown5 hg5))
      have hg0 := hg5.alloc_first
      have HP5 := Lib.hid (show POwn 61 w5 w1.heap.size v5 (madeL l (t + 1)) by rw [HMADE.out]; exact hown5)
      have HR5 := Lib.hid (show POwn 69 w5 w1.heap.size u6 (shownL l b t) from World.ownsRow.kept HR4.out hg0.1 A1.out.or)
      have HW5 := Lib.hid (show IOwn w5 w1.heap.size u7 (hiddenL b t) from World.ownsRow.kept HW4.out hg0.1 A2.out.or)
      have B1 := Lib.hid (A1.out.grew hg0 (fun g e => by have := (HLR.out g e).2; omega))
      have B2 := Lib.hid (A2.out.grew hg0 (fun g e => by have := (HLW.out g e).2; omega))
      have BV5 := Lib.hid (BV4.out.grown hg0.1 (fun e => by have := (HLP.out _ e.symm).2; omega))
      have HB5 := Lib.hid (HB4.out.trans (hg0.below (by omega) fun g e => (HLP.out g e).1))
      have hz5 := hg0.1.size
      have hP5 : ∀ g, v5.ownBlock = some g → g < w5.heap.size := fun g e => (World.ownsRow.lt HP5.out g e).2
      have HPL5 := Lib.hid hP5
      have hbit := HBB.out t
      clear hown5 hg5 hg0 hP5
      cases hbt : b t with
      | true =>
        rw [hbt] at hbit HSHOWN
        have HHID := Lib.hid (show hiddenL b (t + 1) = hiddenL b t by rw [hiddenL_succ, hbt]; simp)
        have HRA := Lib.hid (POwn.alloc HR5.out (.cells (⟨(t : Int), v⟩ : Pd).cells.toArray 69))
        have hm2 : (shownL l b t).length + 1 ≤ 1000000 := by have := shownL_le l b t; omega
        have hbs2 : w1.heap.size ≤ (w5.alloc (.cells (⟨(t : Int), v⟩ : Pd).cells.toArray 69)).heap.size := by simp only [World.size_alloc]; omega
        clear hbt
        go_wp2_with (first
          | (refine load_dig rfl _ rfl v hvl BV5.out rfl ?_)
          | (refine build_pd built_reveal rfl _ _ rfl (t : Int) v hvl rfl rfl ?_)
          | (refine bslr1 rfl _ rfl ⟨(t : Int), v⟩ hvl rfl ?_)
          | (at_builtin; refine app_pd Tryd.underlying59 revealI_all rfl _ _ rfl w1.heap.size u6 (shownL l b t) rfl HRA.out ⟨(t : Int), v⟩ hvl (Blk.new _ _ _) rfl hm2 hbs2 ?_; intro v6 w6 hown6 hg6))
        go_roundw
        case rel =>
          have hg0 := hg6.alloc_first
          exact ⟨t + 1, by omega, by go_num, World.ownsRow.kept HP5.out hg0.1 B1.out.symm.or, by rw [HSHOWN.out]; exact hown6, by rw [HHID.out]; exact World.ownsRow.kept HW5.out hg0.1 A3.out.or,
            (B1.out.symm.grew hg0 HPL5.out).symm, B2.out, A3.out.grew hg0 (fun g e => by have := (HLW.out g e).2; omega), HB5.out.trans (hg0.below (by omega) fun g e => (HLR.out g e).1)⟩
        case measure => simp [intOf]; omega
      | false =>
        rw [hbt] at hbit HSHOWN
        have HHID := Lib.hid (show hiddenL b (t + 1) = hiddenL b t ++ [(t : Int)] by rw [hiddenL_succ, hbt]; simp)
        have HWA := Lib.hid (IOwn.alloc HW5.out (.cells #[.int .i64 (t : Int)] 3))
        have hm2 : (hiddenL b t).length + 1 ≤ 1000000000000 := by have := hiddenL_le b t; omega
        have hbs2 : w1.heap.size ≤ (w5.alloc (.cells #[.int .i64 (t : Int)] 3)).heap.size := by simp only [World.size_alloc]; omega
        clear hbt
        go_wp2_with (at_builtin; refine app_int rfl _ _ rfl w1.heap.size u7 (hiddenL b t) rfl HWA.out (t : Int) (Blk.new _ _ _) rfl hm2 hbs2 ?_; intro v6 w6 hown6 hg6)
        go_roundw
        case rel =>
          have hg0 := hg6.alloc_first
          exact ⟨t + 1, by omega, by go_num, World.ownsRow.kept HP5.out hg0.1 B2.out.symm.or, by rw [HSHOWN.out]; simp only [Bool.false_eq_true, if_false, List.append_nil]; exact World.ownsRow.kept HR5.out hg0.1 A3.out.symm.or, by rw [HHID.out]; exact hown6,
            B1.out, (B2.out.symm.grew hg0 HPL5.out).symm, (A3.out.symm.grew hg0 (fun g e => by have := (HLR.out g e).2; omega)).symm, HB5.out.trans (hg0.below (by omega) fun g e => (HLW.out g e).1)⟩
        case measure => simp [intOf]; omega
    · obtain rfl : t = n := by omega
      obtain ⟨AP, cp, rfl, hcp, hcp2, rp⟩ := hP.shape (madeL_32 l t)
      obtain ⟨AR, cr, rfl, hcr, hcr2, rr⟩ := hR.shape (shownL_32 H32.out b (by rw [← HN.out]; exact Nat.le_refl _))
      obtain ⟨AW, cw, rfl, hcw, hcw2, rw_⟩ := hW.shape
      have hBV := bValue_good AP AR (madeL l t) (shownL l b t) (madeL l t).length cp (shownL l b t).length cr rfl rfl (by have := shownL_le l b t; omega) (madeL_ints l t h24) (shownL_ints l b t h24) wr (HL.out.below hBw) rp rr (madeL_form l t h24) (shownL_form l b t h24)
      have HBV := Lib.hid (hBV.mono fun _ _ h => vp_of rfl (missing_made l b t h24) _ rfl h)
      obtain ⟨q, hq⟩ : ∃ q, q = (hiddenL b t).length := ⟨_, rfl⟩
      rw [← hq] at HBV hcw rw_ ⊢
      have HQ := Lib.hid hq
      have hq9 : q ≤ 24 := by rw [hq]; have := hiddenL_le b t; omega
      obtain ⟨V, hV⟩ : ∃ V, V = valueOf (madeL l t) (shownL l b t) := ⟨_, rfl⟩
      have hVl : V.length = 32 := by rw [hV]; exact tagged_length _ _
      rw [← hV] at HBV
      have HRW := Lib.hid rw_
      have HBW := Lib.hid hBw
      clear hP hR hW a1 a2 a3 hB hBw rp rr rw_ hBV hq hV
      go_wp2_with fail
      refine HBV.out.mono ?_
      rintro e w7 ⟨M, cm, rfl, rm7, hb7⟩
      have rw7 := (Rd.below HRW.out hb7).more hb7.size
      have hB7 := HBW.out.trans (hb7.mono HBW.out.size)
      clear hb7
      have RM := Lib.hid rm7
      have RW := Lib.hid rw7
      have HB7 := Lib.hid hB7
      clear rm7 rw7 hB7
      go_wp2_with (refine store_dig_new rfl _ _ rfl w7 _ _ V hVl rfl rfl rfl ?_)
      refine calls_gen (fun W => Below w7.heap.size w7 W) ((Below.refl _ _).alloc (Nat.le_refl _) _) (fun w8 hb8 => ?_)
      have hsm := r31Same_any M AW (hiddenL b t) (hiddenL b t) cm cw w8 (by rw [← HQ.out]; exact (Rd.below RM.out hb8).more hb8.size) (by rw [← HQ.out]; exact (Rd.below RW.out hb8).more hb8.size) (by rw [← HQ.out]; omega)
      rw [decide_eq_true rfl, ← HQ.out] at hsm
      refine hsm.mono ?_
      rintro e w9 ⟨rfl, hb9⟩
      have hB9 := (HB7.out.trans (hb8.mono HB7.out.size)).trans (hb9.mono (Nat.le_trans HB7.out.size hb8.size))
      go_wp2_with fail
      go_ret
      exact ⟨rfl, hB9⟩
set_option maxRecDepth 100000 in
set_option linter.unusedSimpArgs false in
set_option linter.unusedVariables false in
set_option maxHeartbeats 2000000 in
theorem opened_many (A : Option Addr) (n c : Nat) (h24 : 24 < n) (a : Int) (w : World) (hL : Laid w) : Calls Tryd.prog 18 #[.slice A n c, .int .u32 a] w (Ret (.bool true) w) := by
  have g0 : decide ((24 : Int) < (n : Int)) = true := decide_eq_true (by omega)
  go_enter Tryd.func18, Tryd.ntmps18
  go_wp2_with fail
  refine (sane31_ok w hL).mono ?_
  rintro e w1 ⟨rfl, hb1⟩
  go_wp2_with fail
  go_ret
  exact ⟨rfl, hb1⟩
set_option linter.unusedVariables false in
theorem beaconOpened_any (A : Option Addr) (l : List (List UInt8)) (c : Nat) (hc : l.length ≤ c) (hcc : c ≤ 9223372036854775807) (hI : True) (z : Int) (hz : 0 ≤ z ∧ z < 4294967296) (w : World) (hL : Laid w) (hA : DRd w w.heap.size A l) :
    Calls Tryd.prog 18 #[.slice A l.length c, .int .u32 z] w (Ret (.bool true) w) := by
  obtain ⟨a, rfl⟩ : ∃ a : Nat, z = a := ⟨z.toNat, by omega⟩
  by_cases h : 24 < l.length
  · exact opened_many A l.length c h a w hL
  · exact opened_good A l l.length c rfl (by omega) a (by omega) w hL hA
end Go.Proofs.YtibnikokgbfcdaaDoor

/- Walk: podiumlaw31.sane. -/
import Derived.Test.YtibnikokgbfcdaaDoorBeS
namespace Go.Proofs.YtibnikokgbfcdaaDoor
open Go Go.RowKit

/-- What beacon.Value returns, known. -/
def VP (D : List UInt8) (ms : List Int) (q : Nat) (w : World) (e : Ending) (w' : World) : Prop :=
  ∃ M cm, e = .returned (.tuple #[.agg (dig D), .slice M q cm, .int .i64 0]) ∧ Rd w' w'.heap.size M q (fun i => .int .i64 (ms.getD i 0)) ∧ Below w.heap.size w w'
theorem vp_of {l r : List Pd} {w : World} {D : List UInt8} {ms : List Int} (h1 : valueOf l r = D) (h2 : missingOf l r = ms) (q : Nat) (hq : q = ms.length) {e : Ending} {w' : World} (h : ValPost l r w e w') : VP D ms q w e w' := by
  obtain ⟨M, q', cm, h3, h4, h5, h6, h7, h8⟩ := h
  subst hq h1
  rw [h2] at h4
  subst h4
  rw [h2] at h7
  exact ⟨M, cm, h3, h7, h8⟩
theorem ints_S (p : Pd) (h : -9223372036854775808 ≤ p.party ∧ p.party < 9223372036854775808) : PdInts [p] := fun x hx => by
  rw [List.mem_singleton.1 hx]
  exact h
theorem ints_S2 (p : Pd) (h : -9223372036854775808 ≤ p.party ∧ p.party < 9223372036854775808) : PdInts [p, p] := fun x hx => by
  rcases List.mem_cons.1 hx with rfl | hx
  · exact h
  · rw [List.mem_singleton.1 hx]
    exact h
theorem d0_len : d0S.length = 32 := tagged_length _ _
theorem d1_len : d1S.length = 32 := tagged_length _ _
theorem own_done {w : World} {base : Nat} {v : Value} {n N : Nat} {l m : List UInt8} (h : w.ownsRow base 5 1 v n (bcells l ++ bcells m)) (hN : (l ++ m).length = N) : ∃ A c, v = .slice A N c ∧ RdB w w.heap.size A (l ++ m) := by
  rw [← bcells_append] at h
  obtain ⟨A, c, e, -, -, -, hr⟩ := own_shape h
  exact ⟨A, c, by rw [e, hN], hr⟩
theorem src_10 (W : World) : Src Tryd.prog 1 39 (.slice (some ⟨W.heap.size, 0, none⟩) 2 2) 2 (bcells [1, 0]) (W.alloc (.cells #[.int .u8 1, .int .u8 0] 5)) :=
  src_bytes (l := [1, 0]) (c := 2) _ (RdB.of_blk (Blk.new W 5 #[.int .u8 1, .int .u8 0]) fun k hk => by rcases k with _ | _ | k <;> first | rfl | exact absurd hk (by show ¬ k + 1 + 1 < 2; omega))
theorem src_12 (W : World) : Src Tryd.prog 1 39 (.slice (some ⟨W.heap.size, 0, none⟩) 2 2) 2 (bcells [1, 2]) (W.alloc (.cells #[.int .u8 1, .int .u8 2] 5)) :=
  src_bytes (l := [1, 2]) (c := 2) _ (RdB.of_blk (Blk.new W 5 #[.int .u8 1, .int .u8 2]) fun k hk => by rcases k with _ | _ | k <;> first | rfl | exact absurd hk (by show ¬ k + 1 + 1 < 2; omega))
theorem rdb_30 (W : World) : RdB (W.alloc (.cells #[.int .u8 3, .int .u8 0] 5)) (W.alloc (.cells #[.int .u8 3, .int .u8 0] 5)).heap.size (some ⟨W.heap.size, 0, none⟩) [3, 0] :=
  RdB.of_blk (Blk.new W 5 #[.int .u8 3, .int .u8 0]) fun k hk => by rcases k with _ | _ | k <;> first | rfl | exact absurd hk (by show ¬ k + 1 + 1 < 2; omega)
theorem wrap_is (n : Int) : IntKind.i64.wrap n = wrap64 n := by simp only [IntKind.wrap_i64, wrap64]
theorem bitAt_of {F : List UInt8} {q : Nat} (h : F = tagged bitsTag (bitsText vS q)) (j : Nat) (hj : j / 256 = q) (i : Nat) (hi : j % 256 / 8 = i) (s : Nat) (hs : j % 8 = s) : bitAt vS j = (((F.getD i 0).toNat / 2 ^ s % 2 : Nat) : Int) := by
  rw [bitAt, hj, hi, hs, h]
def zS : List UInt8 := [3, 2, 1, 6] ++ tS
set_option maxRecDepth 100000 in
set_option linter.unusedSimpArgs false in
set_option linter.unusedVariables false in
set_option maxHeartbeats 16000000 in
theorem sane31_ok (w : World) (hL : Laid w) : Calls Tryd.prog 48 #[] w (Ret (.bool true) w) := by
  have HL := Lib.hid hL
  have HM3 := Lib.hid (fun W (hW : Laid W) => show Calls Tryd.prog 49 #[.int .i64 3, .agg (dig vS)] W (Ret (makeV (pS, 0)) W) from bMake_good 3 (by decide) vS rfl W hW)
  have HM24 := Lib.hid (fun W => bMake_bad 24 (by decide) vS W)
  have HMN := Lib.hid (fun W => bMake_bad (-1) (by decide) vS W)
  have HV0 := Lib.hid (fun W (hW : Laid W) => (bValue_good none none [] [] 0 0 0 0 rfl rfl (by decide) (fun x h => by cases h) (fun x h => by cases h) W hW PRd.nil PRd.nil form_nil form_nil).mono fun _ _ h => vp_of (val_nil []) rfl 0 rfl h)
  have HV1 := Lib.hid (fun W (hW : Laid W) A B (hA : PRd W W.heap.size A [pS]) (hB : PRd W W.heap.size B [rS]) => (bValue_good A B [pS] [rS] 1 1 1 1 rfl rfl (by decide) (ints_S _ (by decide)) (ints_S _ (by decide)) W hW hA hB (form_one _ (by decide) (by decide)) (form_one _ (by decide) (by decide))).mono fun _ _ h => vp_of val_S missing_S 0 rfl h)
  have HV2 := Lib.hid (fun W (hW : Laid W) A (hA : PRd W W.heap.size A [pS]) => (bValue_good A none [pS] [] 1 1 0 0 rfl rfl (by decide) (ints_S _ (by decide)) (fun x h => by cases h) W hW hA PRd.nil (form_one _ (by decide) (by decide)) form_nil).mono fun _ _ h => vp_of (val_none _) (missing_none _) 1 rfl h)
  have HV3 := Lib.hid (fun W (hW : Laid W) A (hA : PRd W W.heap.size A [pS, pS]) => bValue_bad1 A none [pS, pS] [] 2 2 0 0 rfl (by decide) rfl (by decide) (ints_S2 _ (by decide)) (fun x h => by cases h) W hW hA PRd.nil (form_two _))
  have HB1 := Lib.hid (fun W (hW : Laid W) => show Calls Tryd.prog 54 #[.agg (dig vS), .int .i64 257] W (BitsPost vS 257 W) from bBits_ok vS rfl 257 (by decide) W hW)
  have HB2 := Lib.hid (fun W => bBits_zero vS W)
  have HB3 := Lib.hid (fun W => bBits_bad vS 4097 (.inr (by decide)) W)
  clear hL
  go_enter Tryd.func48, Tryd.ntmps48
  go_wp2_with (first
    | (refine build_vS rfl rfl ?_)
    | (refine store_dig_new rfl _ _ rfl w _ _ vS rfl rfl rfl rfl ?_)
    | (refine load_dig rfl _ rfl vS rfl (Blk.new w _ _) rfl ?_))
  refine calls_gen (fun W => Blk W w.heap.size 23 (dig vS) ∧ Below w.heap.size w W) ⟨Blk.new _ _ _, (Below.refl _ _).alloc (Nat.le_refl _) _⟩ (fun w1 ⟨bv1, hB1⟩ => ?_)
  refine (HM3.out w1 (HL.out.below hB1)).mono ?_
  rintro e w2 ⟨rfl, hk⟩
  simp only [makeV]
  have bv2 := bv1.below hk bv1.lt
  have hB2 := hB1.trans (hk.mono hB1.size)
  clear bv1 hk hB1
  go_wp2_with (first
    | (refine store_pd pledgeInfo rfl _ _ rfl (Blk.new' w2 61 _ rfl) pS pS_len rfl rfl rfl ?_; intro w3 bp3 hO hz; have hk : Below w2.heap.size w2 w3 := ((Below.refl _ w2).alloc (Nat.le_refl _) _).trans (hO.toBelow (by simp) (Nat.le_refl _)); clear hO hz; have bv3 := bv2.below hk bv2.lt; have hB3 := hB2.trans (hk.mono hB2.size); clear bv2 hk hB2)
    | (refine load_dig rfl _ rfl vS rfl bv3 rfl ?_))
  refine (HM24.out w3).mono ?_
  rintro e w4 ⟨rfl, hk⟩
  simp only [makeV]
  have bv4 := bv3.below hk bv3.lt
  have bp4 := bp3.below hk bp3.lt
  have hB4 := hB3.trans (hk.mono hB3.size)
  clear bv3 bp3 hk hB3
  go_wp2_with (first
    | (refine store_pd pledgeInfo rfl _ _ rfl (Blk.new' w4 61 _ rfl) zpd rfl rfl rfl rfl ?_; intro w5 bz5 hO hz; have hk : Below w4.heap.size w4 w5 := ((Below.refl _ w4).alloc (Nat.le_refl _) _).trans (hO.toBelow (by simp) (Nat.le_refl _)); clear hO hz; have bv5 := bv4.below hk bv4.lt; have bp5 := bp4.below hk bp4.lt; have hB5 := hB4.trans (hk.mono hB4.size); clear bv4 bp4 hk hB4)
    | (refine load_dig rfl _ rfl vS rfl bv5 rfl ?_))
  clear bz5
  refine (HMN.out w5).mono ?_
  rintro e w6 ⟨rfl, hk⟩
  simp only [makeV]
  have bv6 := bv5.below hk bv5.lt
  have bp6 := bp5.below hk bp5.lt
  have hB6 := hB5.trans (hk.mono hB5.size)
  clear bv5 bp5 hk hB5
  go_wp2_with (first
    | (refine store_pd pledgeInfo rfl _ _ rfl (Blk.new' w6 61 _ rfl) zpd rfl rfl rfl rfl ?_; intro w7 bz7 hO hz; have hk : Below w6.heap.size w6 w7 := ((Below.refl _ w6).alloc (Nat.le_refl _) _).trans (hO.toBelow (by simp) (Nat.le_refl _)); clear hO hz; have bv7 := bv6.below hk bv6.lt; have bp7 := bp6.below hk bp6.lt; have hB7 := hB6.trans (hk.mono hB6.size); clear bv6 bp6 hk hB6))
  clear bz7
  refine (HV0.out w7 (HL.out.below hB7)).mono ?_
  rintro e w8 ⟨M0, cm0, rfl, -, hk⟩
  have bv8 := bv7.below hk bv7.lt
  have bp8 := bp7.below hk bp7.lt
  have hB8 := hB7.trans (hk.mono hB7.size)
  clear bv7 bp7 hk hB7
  go_wp2_with (first
    | (refine store_dig_new rfl _ _ rfl w8 _ _ d0S d0_len rfl rfl rfl ?_; refine wpl_gen (fun W => Blk W w8.heap.size 23 (dig d0S) ∧ Below w8.heap.size w8 W) ⟨Blk.new _ _ _, (Below.refl _ _).alloc (Nat.le_refl _) _⟩ ?_; rintro w9 ⟨bn9, hk⟩; have bv9 := bv8.below hk bv8.lt; have bp9 := bp8.below hk bp8.lt; have hB9 := hB8.trans (hk.mono hB8.size); clear bv8 bp8 hk hB8)
    | (refine load_pd pledgeType pledgeInfo rfl _ rfl _ 0 pS ⟨pS_len, rangeAt_of_blk_toArray bp9⟩ rfl ?_)
    | (refine bslp1 rfl _ rfl pS pS_len rfl ?_; refine wpl_gen (fun W => Blk W w9.heap.size 61 pS.cells.toArray ∧ Below w9.heap.size w9 W) ⟨Blk.new _ _ _, (Below.refl _ _).alloc (Nat.le_refl _) _⟩ ?_; rintro w10 ⟨ba10, hk⟩; have bv10 := bv9.below hk bv9.lt; have bp10 := bp9.below hk bp9.lt; have bn10 := bn9.below hk bn9.lt; have hB10 := hB9.trans (hk.mono hB9.size); clear bv9 bp9 bn9 hk hB9)
    | (refine load_dig rfl _ rfl vS rfl bv10 rfl ?_)
    | (refine build_pd built_reveal rfl _ _ rfl 3 vS rfl rfl rfl ?_)
    | (refine bslr1 rfl _ rfl rS rfl rfl ?_; refine wpl_gen (fun W => Blk W w10.heap.size 69 rS.cells.toArray ∧ Below w10.heap.size w10 W) ⟨Blk.new _ _ _, (Below.refl _ _).alloc (Nat.le_refl _) _⟩ ?_; rintro w11 ⟨br11, hk⟩; have bv11 := bv10.below hk bv10.lt; have bp11 := bp10.below hk bp10.lt; have bn11 := bn10.below hk bn10.lt; have ba11 := ba10.below hk ba10.lt; have hB11 := hB10.trans (hk.mono hB10.size); clear bv10 bp10 bn10 ba10 hk hB10))
  refine (HV1.out w11 (HL.out.below hB11) _ _ (prd_blk ba11 pS_len) (prd_blk br11 rfl)).mono ?_
  rintro e w12 ⟨M1, cm1, rfl, -, hk⟩
  clear ba11 br11
  have bv12 := bv11.below hk bv11.lt
  have bp12 := bp11.below hk bp11.lt
  have bn12 := bn11.below hk bn11.lt
  have hB12 := hB11.trans (hk.mono hB11.size)
  clear bv11 bp11 bn11 hk hB11
  go_wp2_with (first
    | (refine store_dig_new rfl _ _ rfl w12 _ _ d1S d1_len rfl rfl rfl ?_; refine wpl_gen (fun W => Blk W w12.heap.size 23 (dig d1S) ∧ Below w12.heap.size w12 W) ⟨Blk.new _ _ _, (Below.refl _ _).alloc (Nat.le_refl _) _⟩ ?_; rintro w13 ⟨bd13, hk⟩; have bv13 := bv12.below hk bv12.lt; have bp13 := bp12.below hk bp12.lt; have bn13 := bn12.below hk bn12.lt; have hB13 := hB12.trans (hk.mono hB12.size); clear bv12 bp12 bn12 hk hB12)
    | (refine load_pd pledgeType pledgeInfo rfl _ rfl _ 0 pS ⟨pS_len, rangeAt_of_blk_toArray bp13⟩ rfl ?_)
    | (refine bslp1 rfl _ rfl pS pS_len rfl ?_; refine wpl_gen (fun W => Blk W w13.heap.size 61 pS.cells.toArray ∧ Below w13.heap.size w13 W) ⟨Blk.new _ _ _, (Below.refl _ _).alloc (Nat.le_refl _) _⟩ ?_; rintro w14 ⟨ba14, hk⟩; have bv14 := bv13.below hk bv13.lt; have bp14 := bp13.below hk bp13.lt; have bn14 := bn13.below hk bn13.lt; have bd14 := bd13.below hk bd13.lt; have hB14 := hB13.trans (hk.mono hB13.size); clear bv13 bp13 bn13 bd13 hk hB13))
  refine (HV2.out w14 (HL.out.below hB14) _ (prd_blk ba14 pS_len)).mono ?_
  rintro e w15 ⟨M2, cm2, rfl, r315, hk⟩
  clear ba14
  have bv15 := bv14.below hk bv14.lt
  have bp15 := bp14.below hk bp14.lt
  have bn15 := bn14.below hk bn14.lt
  have bd15 := bd14.below hk bd14.lt
  have hB15 := hB14.trans (hk.mono hB14.size)
  clear bv14 bp14 bn14 bd14 hk hB14
  go_wp2_with (first
    | (refine store_dig_new rfl _ _ rfl w15 _ _ d0S d0_len rfl rfl rfl ?_; refine wpl_gen (fun W => Blk W w15.heap.size 23 (dig d0S) ∧ Below w15.heap.size w15 W) ⟨Blk.new _ _ _, (Below.refl _ _).alloc (Nat.le_refl _) _⟩ ?_; rintro w16 ⟨bl16, hk⟩; have bv16 := bv15.below hk bv15.lt; have bp16 := bp15.below hk bp15.lt; have bn16 := bn15.below hk bn15.lt; have bd16 := bd15.below hk bd15.lt; have r316 := (Rd.below r315 hk).more hk.size; have hB16 := hB15.trans (hk.mono hB15.size); clear bv15 bp15 bn15 bd15 r315 hk hB15)
    | (refine load_pd pledgeType pledgeInfo rfl _ rfl _ 0 pS ⟨pS_len, rangeAt_of_blk_toArray bp16⟩ rfl ?_)
    | (refine bslp2 rfl _ _ rfl pS pS_len rfl rfl ?_; refine wpl_gen (fun W => Blk W w16.heap.size 61 (pS.cells ++ pS.cells).toArray ∧ Below w16.heap.size w16 W) ⟨Blk.new _ _ _, (Below.refl _ _).alloc (Nat.le_refl _) _⟩ ?_; rintro w17 ⟨ba17, hk⟩; have bv17 := bv16.below hk bv16.lt; have bp17 := bp16.below hk bp16.lt; have bn17 := bn16.below hk bn16.lt; have bd17 := bd16.below hk bd16.lt; have r317 := (Rd.below r316 hk).more hk.size; have bl17 := bl16.below hk bl16.lt; have hB17 := hB16.trans (hk.mono hB16.size); clear bv16 bp16 bn16 bd16 r316 bl16 hk hB16))
  refine (HV3.out w17 (HL.out.below hB17) _ (prd_blk2 ba17 pS_len)).mono ?_
  rintro e w18 ⟨rfl, hk⟩
  clear ba17
  have bv18 := bv17.below hk bv17.lt
  have bp18 := bp17.below hk bp17.lt
  have bn18 := bn17.below hk bn17.lt
  have bd18 := bd17.below hk bd17.lt
  have r318 := (Rd.below r317 hk).more hk.size
  have bl18 := bl17.below hk bl17.lt
  have hB18 := hB17.trans (hk.mono hB17.size)
  clear bv17 bp17 bn17 bd17 r317 bl17 hk hB17
  go_wp2_with (first
    | (refine store_dig_new rfl _ _ rfl w18 _ _ zdg rfl rfl rfl rfl ?_; refine wpl_gen (fun W => Blk W w18.heap.size 23 (dig zdg) ∧ Below w18.heap.size w18 W) ⟨Blk.new _ _ _, (Below.refl _ _).alloc (Nat.le_refl _) _⟩ ?_; rintro w19 ⟨bz19, hk⟩; have bv19 := bv18.below hk bv18.lt; have bp19 := bp18.below hk bp18.lt; have bn19 := bn18.below hk bn18.lt; have bd19 := bd18.below hk bd18.lt; have r319 := (Rd.below r318 hk).more hk.size; have bl19 := bl18.below hk bl18.lt; have hB19 := hB18.trans (hk.mono hB18.size); clear bv18 bp18 bn18 bd18 r318 bl18 hk hB18)
    | (refine load_dig rfl _ rfl vS rfl bv19 rfl ?_))
  clear bz19
  refine (HB1.out w19 (HL.out.below hB19)).mono ?_
  rintro e w20 ⟨BL, bc, rfl, hbc, -, rb20, hk⟩
  have bv20 := bv19.below hk bv19.lt
  have bp20 := bp19.below hk bp19.lt
  have bn20 := bn19.below hk bn19.lt
  have bd20 := bd19.below hk bd19.lt
  have r320 := (Rd.below r319 hk).more hk.size
  have bl20 := bl19.below hk bl19.lt
  have hB20 := hB19.trans (hk.mono hB19.size)
  clear bv19 bp19 bn19 bd19 r319 bl19 hk hB19
  go_wp2_with (refine load_dig rfl _ rfl vS rfl bv20 rfl ?_)
  refine (HB2.out w20).mono ?_
  rintro e w21 ⟨rfl, hk⟩
  have bv21 := bv20.below hk bv20.lt
  have bp21 := bp20.below hk bp20.lt
  have bn21 := bn20.below hk bn20.lt
  have bd21 := bd20.below hk bd20.lt
  have r321 := (Rd.below r320 hk).more hk.size
  have bl21 := bl20.below hk bl20.lt
  have rb21 := (Rd.below rb20 hk).more hk.size
  have hB21 := hB20.trans (hk.mono hB20.size)
  clear bv20 bp20 bn20 bd20 r320 bl20 rb20 hk hB20
  go_wp2_with (refine load_dig rfl _ rfl vS rfl bv21 rfl ?_)
  refine (HB3.out w21).mono ?_
  rintro e w22 ⟨rfl, hk⟩
  have bv22 := bv21.below hk bv21.lt
  have bp22 := bp21.below hk bp21.lt
  have bn22 := bn21.below hk bn21.lt
  have bd22 := bd21.below hk bd21.lt
  have r322 := (Rd.below r321 hk).more hk.size
  have bl22 := bl21.below hk bl21.lt
  have rb22 := (Rd.below rb21 hk).more hk.size
  have hB22 := hB21.trans (hk.mono hB21.size)
  clear bv21 bp21 bn21 bd21 r321 bl21 rb21 hk hB21
  have hvS : RdB w22 w22.heap.size (some ⟨w.heap.size, 0, none⟩) vS := RdB.of_blk bv22 fun k hk => by rw [Nat.zero_add]; exact dig_get vS k hk
  have hO := Lib.hid (own_bytes_new w22 w22.heap.size (Nat.le_refl _) [2, 32] (by decide))
  have hSR := Lib.hid (show Src Tryd.prog 1 39 (.slice (some ⟨w.heap.size, 0, none⟩) 32 32) 32 (bcells vS) (w22.alloc (.cells #[.int .u8 2, .int .u8 32] 5)) from src_bytes (c := 32) _ (Rd.below hvS ((Below.refl _ _).alloc (Nat.le_refl _) _)))
  clear hvS
  go_upto_region 15 with (at_builtin; refine app_bytes _ rfl _ _ 39 rfl w22.heap.size (.slice (some ⟨w22.heap.size, 0, none⟩) 2 2) 2 (bcells [2, 32]) rfl hO.out (.slice (some ⟨w.heap.size, 0, none⟩) 32 32) 32 (bcells vS) rfl hSR.out (by omega) (by simp) ?_; intro v23 w23 hown hg; have hk : Below w22.heap.size w22 w23 := ((Below.refl _ w22).alloc (Nat.le_refl _) _).trans (hg.below (by simp) fun k hk => by cases hk; exact Nat.le_refl _))
  obtain ⟨TA, tc, rfl, rt23⟩ := own_done (N := 34) hown rfl
  change RdB w23 w23.heap.size TA tS at rt23
  clear hown hg hO hSR
  have bv23 := bv22.below hk bv22.lt
  have bp23 := bp22.below hk bp22.lt
  have bn23 := bn22.below hk bn22.lt
  have bd23 := bd22.below hk bd22.lt
  have r323 := (Rd.below r322 hk).more hk.size
  have bl23 := bl22.below hk bl22.lt
  have rb23 := (Rd.below rb22 hk).more hk.size
  have hB23 := hB22.trans (hk.mono hB22.size)
  clear bv22 bp22 bn22 bd22 r322 bl22 rb22 hk hB22
  have hO := Lib.hid (own_bytes_new w23 w23.heap.size (Nat.le_refl _) [3, 2, 1, 6] (by decide))
  have hSR := Lib.hid (show Src Tryd.prog 1 39 (.slice TA 34 tc) 34 (bcells tS) (w23.alloc (.cells #[.int .u8 3, .int .u8 2, .int .u8 1, .int .u8 6] 5)) from src_bytes (c := tc) _ (Rd.below rt23 ((Below.refl _ _).alloc (Nat.le_refl _) _)))
  go_upto_region 16 with (at_builtin; refine app_bytes _ rfl _ _ 39 rfl w23.heap.size (.slice (some ⟨w23.heap.size, 0, none⟩) 4 4) 4 (bcells [3, 2, 1, 6]) rfl hO.out (.slice TA 34 tc) 34 (bcells tS) rfl hSR.out (by omega) (by simp) ?_; intro v24 w24 hown hg; have hk : Below w23.heap.size w23 w24 := ((Below.refl _ w23).alloc (Nat.le_refl _) _).trans (hg.below (by simp) fun k hk => by cases hk; exact Nat.le_refl _))
  obtain ⟨ZA, zc, rfl, rz24⟩ := own_done (N := 38) hown rfl
  change RdB w24 w24.heap.size ZA zS at rz24
  clear hown hg hO hSR
  have bv24 := bv23.below hk bv23.lt
  have bp24 := bp23.below hk bp23.lt
  have bn24 := bn23.below hk bn23.lt
  have bd24 := bd23.below hk bd23.lt
  have r324 := (Rd.below r323 hk).more hk.size
  have bl24 := bl23.below hk bl23.lt
  have rb24 := (Rd.below rb23 hk).more hk.size
  have rt24 := (Rd.below rt23 hk).more hk.size
  have hB24 := hB23.trans (hk.mono hB23.size)
  clear bv23 bp23 bn23 bd23 r323 bl23 rb23 rt23 hk hB23
  have hO := Lib.hid (own_bytes_new w24 w24.heap.size (Nat.le_refl _) [3, 2] (by decide))
  have hSR := Lib.hid (show Src Tryd.prog 1 39 (.slice TA 34 tc) 34 (bcells tS) (w24.alloc (.cells #[.int .u8 3, .int .u8 2] 5)) from src_bytes (c := tc) _ (Rd.below rt24 ((Below.refl _ _).alloc (Nat.le_refl _) _)))
  go_wp2_with (first | (at_builtin; refine app_bytes _ rfl _ _ 39 rfl w24.heap.size (.slice (some ⟨w24.heap.size, 0, none⟩) 2 2) 2 (bcells [3, 2]) rfl hO.out (.slice TA 34 tc) 34 (bcells tS) rfl hSR.out (by omega) (by simp) ?_; intro v25 w25 hown hg; have hk : Below w24.heap.size w24 w25 := ((Below.refl _ w24).alloc (Nat.le_refl _) _).trans (hg.below (by simp) fun k hk => by cases hk; exact Nat.le_refl _)) | (at_builtin; refine app_bytes _ rfl _ _ 39 rfl w24.heap.size v25 (2 + 34) (bcells [3, 2] ++ bcells tS) rfl (World.ownsRow.alloc hown _) (.slice (some ⟨w25.heap.size, 0, none⟩) 2 2) 2 (bcells [1, 0]) rfl (src_10 w25) (by omega) (Nat.le_trans hk.size (by simp)) ?_; intro v26 w26 hown2 hg2))
  have hk2 : Below w24.heap.size w24 w26 := (hk.alloc hk.size _).trans (hg2.below (Nat.le_trans hk.size (by simp)) fun k hk => (World.ownsRow.lt hown k hk).1)
  rw [← bcells_append] at hown2
  obtain ⟨XA, xc, rfl, rx26⟩ := own_done (N := 38) hown2 rfl
  clear hown hg hO hSR hown2 hg2 hk
  have HX := Lib.hid (show ([3, 2] ++ tS ++ [1, 0] : List UInt8) = bitsText vS 0 from bits_vS0.symm)
  have hxl : ([3, 2] ++ tS ++ [1, 0] : List UInt8).length = 38 := rfl
  obtain ⟨X, hX⟩ : ∃ X, X = ([3, 2] ++ tS ++ [1, 0] : List UInt8) := ⟨_, rfl⟩
  rw [← hX] at rx26 hxl HX
  clear hX
  have bv26 := bv24.below hk2 bv24.lt
  have bp26 := bp24.below hk2 bp24.lt
  have bn26 := bn24.below hk2 bn24.lt
  have bd26 := bd24.below hk2 bd24.lt
  have r326 := (Rd.below r324 hk2).more hk2.size
  have bl26 := bl24.below hk2 bl24.lt
  have rb26 := (Rd.below rb24 hk2).more hk2.size
  have rt26 := (Rd.below rt24 hk2).more hk2.size
  have rz26 := (Rd.below rz24 hk2).more hk2.size
  have hB26 := hB24.trans (hk2.mono hB24.size)
  clear bv24 bp24 bn24 bd24 r324 bl24 rb24 rt24 rz24 hk2 hB24
  have HTG := Lib.hid (tagged_any ⟨#[98, 105, 116, 115]⟩ XA X xc w26 (HL.out.below hB26) rx26 (by omega) (by decide))
  rw [hxl] at HTG
  refine HTG.out.mono ?_
  rintro e w27 ⟨rfl, hk⟩
  clear HTG rx26
  obtain ⟨F1, hF1⟩ : ∃ T, T = tagged bitsTag X := ⟨_, rfl⟩
  have F1l : F1.length = 32 := by rw [hF1]; exact tagged_length _ _
  rw [show tagged (ByteArray.mk #[98, 105, 116, 115]).data.toList X = F1 from hF1.symm]
  have HF1 := Lib.hid (show F1 = tagged bitsTag (bitsText vS 0) by rw [hF1, HX.out])
  clear hF1 HX hxl
  have bv27 := bv26.below hk bv26.lt
  have bp27 := bp26.below hk bp26.lt
  have bn27 := bn26.below hk bn26.lt
  have bd27 := bd26.below hk bd26.lt
  have r327 := (Rd.below r326 hk).more hk.size
  have bl27 := bl26.below hk bl26.lt
  have rb27 := (Rd.below rb26 hk).more hk.size
  have rt27 := (Rd.below rt26 hk).more hk.size
  have rz27 := (Rd.below rz26 hk).more hk.size
  have hB27 := hB26.trans (hk.mono hB26.size)
  clear bv26 bp26 bn26 bd26 r326 bl26 rb26 rt26 rz26 hk hB26
  go_upto_region 17 with (refine store_dig_new rfl _ _ rfl w27 _ _ F1 F1l rfl rfl rfl ?_; refine wpl_gen (fun W => Blk W w27.heap.size 23 (dig F1) ∧ Below w27.heap.size w27 W) ⟨Blk.new _ _ _, (Below.refl _ _).alloc (Nat.le_refl _) _⟩ ?_; rintro w28 ⟨bf28, hk⟩; have bv28 := bv27.below hk bv27.lt; have bp28 := bp27.below hk bp27.lt; have bn28 := bn27.below hk bn27.lt; have bd28 := bd27.below hk bd27.lt; have r328 := (Rd.below r327 hk).more hk.size; have bl28 := bl27.below hk bl27.lt; have rb28 := (Rd.below rb27 hk).more hk.size; have rt28 := (Rd.below rt27 hk).more hk.size; have rz28 := (Rd.below rz27 hk).more hk.size; have hB28 := hB27.trans (hk.mono hB27.size); clear bv27 bp27 bn27 bd27 r327 bl27 rb27 rt27 rz27 hk hB27)
  have hO := Lib.hid (own_bytes_new w28 w28.heap.size (Nat.le_refl _) [3, 2] (by decide))
  have hSR := Lib.hid (show Src Tryd.prog 1 39 (.slice TA 34 tc) 34 (bcells tS) (w28.alloc (.cells #[.int .u8 3, .int .u8 2] 5)) from src_bytes (c := tc) _ (Rd.below rt28 ((Below.refl _ _).alloc (Nat.le_refl _) _)))
  go_wp2_with (first | (at_builtin; refine app_bytes _ rfl _ _ 39 rfl w28.heap.size (.slice (some ⟨w28.heap.size, 0, none⟩) 2 2) 2 (bcells [3, 2]) rfl hO.out (.slice TA 34 tc) 34 (bcells tS) rfl hSR.out (by omega) (by simp) ?_; intro v29 w29 hown hg; have hk : Below w28.heap.size w28 w29 := ((Below.refl _ w28).alloc (Nat.le_refl _) _).trans (hg.below (by simp) fun k hk => by cases hk; exact Nat.le_refl _)) | (at_builtin; refine app_bytes _ rfl _ _ 39 rfl w28.heap.size v29 (2 + 34) (bcells [3, 2] ++ bcells tS) rfl (World.ownsRow.alloc hown _) (.slice (some ⟨w29.heap.size, 0, none⟩) 2 2) 2 (bcells [1, 2]) rfl (src_12 w29) (by omega) (Nat.le_trans hk.size (by simp)) ?_; intro v30 w30 hown2 hg2))
  have hk2 : Below w28.heap.size w28 w30 := (hk.alloc hk.size _).trans (hg2.below (Nat.le_trans hk.size (by simp)) fun k hk => (World.ownsRow.lt hown k hk).1)
  rw [← bcells_append] at hown2
  obtain ⟨XA, xc, rfl, rx30⟩ := own_done (N := 38) hown2 rfl
  clear hown hg hO hSR hown2 hg2 hk
  have HX := Lib.hid (show ([3, 2] ++ tS ++ [1, 2] : List UInt8) = bitsText vS 1 from bits_vS1.symm)
  have hxl : ([3, 2] ++ tS ++ [1, 2] : List UInt8).length = 38 := rfl
  obtain ⟨X, hX⟩ : ∃ X, X = ([3, 2] ++ tS ++ [1, 2] : List UInt8) := ⟨_, rfl⟩
  rw [← hX] at rx30 hxl HX
  clear hX
  have bv30 := bv28.below hk2 bv28.lt
  have bp30 := bp28.below hk2 bp28.lt
  have bn30 := bn28.below hk2 bn28.lt
  have bd30 := bd28.below hk2 bd28.lt
  have r330 := (Rd.below r328 hk2).more hk2.size
  have bl30 := bl28.below hk2 bl28.lt
  have rb30 := (Rd.below rb28 hk2).more hk2.size
  have rt30 := (Rd.below rt28 hk2).more hk2.size
  have rz30 := (Rd.below rz28 hk2).more hk2.size
  have bf30 := bf28.below hk2 bf28.lt
  have hB30 := hB28.trans (hk2.mono hB28.size)
  clear bv28 bp28 bn28 bd28 r328 bl28 rb28 rt28 rz28 bf28 hk2 hB28
  have HTG := Lib.hid (tagged_any ⟨#[98, 105, 116, 115]⟩ XA X xc w30 (HL.out.below hB30) rx30 (by omega) (by decide))
  rw [hxl] at HTG
  refine HTG.out.mono ?_
  rintro e w31 ⟨rfl, hk⟩
  clear HTG rx30
  obtain ⟨F2, hF2⟩ : ∃ T, T = tagged bitsTag X := ⟨_, rfl⟩
  have F2l : F2.length = 32 := by rw [hF2]; exact tagged_length _ _
  rw [show tagged (ByteArray.mk #[98, 105, 116, 115]).data.toList X = F2 from hF2.symm]
  have HF2 := Lib.hid (show F2 = tagged bitsTag (bitsText vS 1) by rw [hF2, HX.out])
  clear hF2 HX hxl
  have bv31 := bv30.below hk bv30.lt
  have bp31 := bp30.below hk bp30.lt
  have bn31 := bn30.below hk bn30.lt
  have bd31 := bd30.below hk bd30.lt
  have r331 := (Rd.below r330 hk).more hk.size
  have bl31 := bl30.below hk bl30.lt
  have rb31 := (Rd.below rb30 hk).more hk.size
  have rt31 := (Rd.below rt30 hk).more hk.size
  have rz31 := (Rd.below rz30 hk).more hk.size
  have bf31 := bf30.below hk bf30.lt
  have hB31 := hB30.trans (hk.mono hB30.size)
  clear bv30 bp30 bn30 bd30 r330 bl30 rb30 rt30 rz30 bf30 hk hB30
  go_upto_region 18 with (refine store_dig_new rfl _ _ rfl w31 _ _ F2 F2l rfl rfl rfl ?_; refine wpl_gen (fun W => Blk W w31.heap.size 23 (dig F2) ∧ Below w31.heap.size w31 W) ⟨Blk.new _ _ _, (Below.refl _ _).alloc (Nat.le_refl _) _⟩ ?_; rintro w32 ⟨bg32, hk⟩; have bv32 := bv31.below hk bv31.lt; have bp32 := bp31.below hk bp31.lt; have bn32 := bn31.below hk bn31.lt; have bd32 := bd31.below hk bd31.lt; have r332 := (Rd.below r331 hk).more hk.size; have bl32 := bl31.below hk bl31.lt; have rb32 := (Rd.below rb31 hk).more hk.size; have rt32 := (Rd.below rt31 hk).more hk.size; have rz32 := (Rd.below rz31 hk).more hk.size; have bf32 := bf31.below hk bf31.lt; have hB32 := hB31.trans (hk.mono hB31.size); clear bv31 bp31 bn31 bd31 r331 bl31 rb31 rt31 rz31 bf31 hk hB31)
  have K0 := Lib.hid (show w32.cell? ⟨w2.heap.size, 0, none⟩ = some (.int .i64 3) from pd_party bp32)
  have KL := bp32.lt
  have HRG := Lib.hid (pd_dg bp32 pS_len)
  have HT7 := Lib.hid (show ∀ W (h : Below w32.heap.size w32 W), Calls Tryd.prog 58 #[.string ⟨#[112, 108, 101, 100, 103, 101]⟩, .slice ZA 38 zc] W (Ret (.agg (dig pS.dg)) W) from fun W h => by
    have ht := tagged_any ⟨#[112, 108, 101, 100, 103, 101]⟩ ZA zS zc W (HL.out.below (hB32.trans (h.mono hB32.size))) ((Rd.below rz32 h).more h.size) (by decide) (by decide)
    rw [show tagged (ByteArray.mk #[112, 108, 101, 100, 103, 101]).data.toList zS = pS.dg from commit_S] at ht
    exact ht)
  have HRZ := Lib.hid rz32
  have HBW := Lib.hid hB32
  have HBN := Lib.hid bn32
  have HBD := Lib.hid bd32
  have HBLo := Lib.hid bl32
  refine wp_region_held_drew (S := fun W' => Below w32.heap.size w32 W') (by kernel_rfl) (Below.refl _ _).drew (fun hS => ?_)
  refine wpAnyH_take (i := 0) (v := .pointer (some ⟨w2.heap.size, 0, none⟩)) rfl (by kernel_rfl) (by kernel_rfl) (by kernel_rfl) (fun _ _ _ h => h) (Or.inl ⟨by rfl, fun W' hS' => by go_simp⟩) hS ?_
  simp only [Act.put, List.getElem_toArray, List.getElem_cons_zero, List.getElem_cons_succ, List.setIfInBounds_toArray, List.set_cons_zero, List.set_cons_succ]
  refine wpAnyH_take (i := 1) (v := .int .i64 3) rfl (by kernel_rfl) (by kernel_rfl) (by kernel_rfl) (fun _ _ _ h => h) (Or.inl ⟨by rfl, fun W' hS' => by have := (hS'.cell (p := ⟨w2.heap.size, 0, none⟩) KL).trans K0.out; go_simp⟩) hS ?_
  simp only [Act.put, List.getElem_toArray, List.getElem_cons_zero, List.getElem_cons_succ, List.setIfInBounds_toArray, List.set_cons_zero, List.set_cons_succ]
  refine wpAnyH_take (i := 2) (v := .bool false) rfl (by kernel_rfl) (by kernel_rfl) (by kernel_rfl) (fun _ _ _ h => h) (Or.inl ⟨by rfl, fun W' hS' => by go_simp⟩) hS ?_
  simp only [Act.put, List.getElem_toArray, List.getElem_cons_zero, List.getElem_cons_succ, List.setIfInBounds_toArray, List.set_cons_zero, List.set_cons_succ]
  refine wpAnyH_take (i := 3) (v := .bool false) rfl (by kernel_rfl) (by kernel_rfl) (by kernel_rfl) (fun _ _ _ h => h) (Or.inl ⟨by rfl, fun W' hS' => by go_simp⟩) hS ?_
  simp only [Act.put, List.getElem_toArray, List.getElem_cons_zero, List.getElem_cons_succ, List.setIfInBounds_toArray, List.set_cons_zero, List.set_cons_succ]
  refine wpAnyH_take (i := 4) (v := .pointer (some ⟨w2.heap.size, 1, none⟩)) rfl (by kernel_rfl) (by kernel_rfl) (by kernel_rfl) (fun _ _ _ h => h) (Or.inl ⟨by rfl, fun W' hS' => by go_simp⟩) hS ?_
  simp only [Act.put, List.getElem_toArray, List.getElem_cons_zero, List.getElem_cons_succ, List.setIfInBounds_toArray, List.set_cons_zero, List.set_cons_succ]
  refine wpAnyH_take (i := 5) (v := .agg (dig pS.dg)) rfl (by kernel_rfl) (by kernel_rfl) (by kernel_rfl) (fun _ _ _ h => h) (yields_mid_dig (by rfl) _ rfl _ _ rfl pS.dg pS_len (fun W' hS' => rangeAt_below HRG.out hS' KL)) hS ?_
  simp only [Act.put, List.getElem_toArray, List.getElem_cons_zero, List.getElem_cons_succ, List.setIfInBounds_toArray, List.set_cons_zero, List.set_cons_succ]
  refine wpAnyH_take (i := 6) (v := .slice ZA 38 zc) rfl (by kernel_rfl) (by kernel_rfl) (by kernel_rfl) (fun _ _ _ h => h) (Or.inl ⟨by rfl, fun W' hS' => by go_simp⟩) hS ?_
  simp only [Act.put, List.getElem_toArray, List.getElem_cons_zero, List.getElem_cons_succ, List.setIfInBounds_toArray, List.set_cons_zero, List.set_cons_succ]
  refine wpAnyH_ready (rs := [7]) (by kernel_rfl) (by simp) ?_
  refine AllReadyH.cons rfl (fun Kq hKq => ?_) AllReadyH.nil
  go_simp
  refine (HT7.out _ hS).mono ?_
  rintro e W7 ⟨rfl, hb7⟩
  have hS7 := hS.trans (hb7.mono hS.size)
  refine hKq.out _ _ hS7 (fun _ => ?_)
  clear hKq Kq hb7 hS
  refine wpAnyH_take (i := 8) (v := .bool false) rfl (by kernel_rfl) (by kernel_rfl) (by kernel_rfl) (fun _ _ _ h => h) (yields_neq_same (by rfl) _ _ _ rfl pS.dg pS_len rfl rfl) hS7 ?_
  simp only [Act.put, List.getElem_toArray, List.getElem_cons_zero, List.getElem_cons_succ, List.setIfInBounds_toArray, List.set_cons_zero, List.set_cons_succ]
  refine wpAnyH_take (i := 9) (v := .bool false) rfl (by kernel_rfl) (by kernel_rfl) (by kernel_rfl) (fun _ _ _ h => h) (Or.inl ⟨by rfl, fun W' hS' => by go_simp⟩) hS7 ?_
  simp only [Act.put, List.getElem_toArray, List.getElem_cons_zero, List.getElem_cons_succ, List.setIfInBounds_toArray, List.set_cons_zero, List.set_cons_succ]
  refine wpAnyH_take (i := 10) (v := .bool false) rfl (by kernel_rfl) (by kernel_rfl) (by kernel_rfl) (fun _ _ _ h => h) (Or.inl ⟨by rfl, fun W' hS' => by go_simp⟩) hS7 ?_
  simp only [Act.put, List.getElem_toArray, List.getElem_cons_zero, List.getElem_cons_succ, List.setIfInBounds_toArray, List.set_cons_zero, List.set_cons_succ]
  refine wpAnyH_take (i := 11) (v := .agg (dig d0S)) rfl (by kernel_rfl) (by kernel_rfl) (by kernel_rfl) (fun _ _ _ h => h) (yields_dig (by rfl) _ rfl _ rfl d0S d0_len (fun W' hS' => HBN.out.below hS' HBN.out.lt)) hS7 ?_
  simp only [Act.put, List.getElem_toArray, List.getElem_cons_zero, List.getElem_cons_succ, List.setIfInBounds_toArray, List.set_cons_zero, List.set_cons_succ]
  refine wpAnyH_ready (rs := [12]) (by kernel_rfl) (by simp) ?_
  refine AllReadyH.cons rfl (fun Kq hKq => ?_) AllReadyH.nil
  go_simp
  have hS8 := hS7.alloc hS7.size (.cells #[.int .u8 3, .int .u8 0] 5)
  have hr8 := rdb_30 W7
  refine hKq.out _ _ hS8 (fun _ => ?_)
  clear hKq Kq hS7
  obtain ⟨g8, hg8⟩ : ∃ g8, g8 = W7.heap.size := ⟨_, rfl⟩
  rw [← hg8] at hr8 ⊢
  generalize W7.alloc (.cells #[.int .u8 3, .int .u8 0] 5) = W8 at hr8 hS8 ⊢
  clear hg8
  refine wpAnyH_ready (rs := [13]) (by kernel_rfl) (by simp) ?_
  refine AllReadyH.cons rfl (fun Kq hKq => ?_) AllReadyH.nil
  go_simp
  have ht13 := tagged_any ⟨#[98, 101, 97, 99, 111, 110]⟩ (some ⟨g8, 0, none⟩) [3, 0] 2 W8 (HL.out.below (HBW.out.trans (hS8.mono HBW.out.size))) hr8 (by decide) (by decide)
  rw [show tagged (ByteArray.mk #[98, 101, 97, 99, 111, 110]).data.toList [3, 0] = d0S from rfl] at ht13
  refine ht13.mono ?_
  rintro e W9 ⟨rfl, hb9⟩
  have hS9 := hS8.trans (hb9.mono hS8.size)
  refine hKq.out _ _ hS9 (fun _ => ?_)
  clear hKq Kq hb9 hS8 hr8 ht13
  refine wpAnyH_take (i := 14) (v := .bool false) rfl (by kernel_rfl) (by kernel_rfl) (by kernel_rfl) (fun _ _ _ h => h) (yields_neq_same (by rfl) _ _ _ rfl d0S d0_len rfl rfl) hS9 ?_
  simp only [Act.put, List.getElem_toArray, List.getElem_cons_zero, List.getElem_cons_succ, List.setIfInBounds_toArray, List.set_cons_zero, List.set_cons_succ]
  refine wpAnyH_take (i := 15) (v := .bool false) rfl (by kernel_rfl) (by kernel_rfl) (by kernel_rfl) (fun _ _ _ h => h) (Or.inl ⟨by rfl, fun W' hS' => by go_simp⟩) hS9 ?_
  simp only [Act.put, List.getElem_toArray, List.getElem_cons_zero, List.getElem_cons_succ, List.setIfInBounds_toArray, List.set_cons_zero, List.set_cons_succ]
  refine wpAnyH_take (i := 16) (v := .bool false) rfl (by kernel_rfl) (by kernel_rfl) (by kernel_rfl) (fun _ _ _ h => h) (Or.inl ⟨by rfl, fun W' hS' => by go_simp⟩) hS9 ?_
  simp only [Act.put, List.getElem_toArray, List.getElem_cons_zero, List.getElem_cons_succ, List.setIfInBounds_toArray, List.set_cons_zero, List.set_cons_succ]
  refine wpAnyH_take (i := 17) (v := .agg (dig d1S)) rfl (by kernel_rfl) (by kernel_rfl) (by kernel_rfl) (fun _ _ _ h => h) (yields_dig (by rfl) _ rfl _ rfl d1S d1_len (fun W' hS' => HBD.out.below hS' HBD.out.lt)) hS9 ?_
  simp only [Act.put, List.getElem_toArray, List.getElem_cons_zero, List.getElem_cons_succ, List.setIfInBounds_toArray, List.set_cons_zero, List.set_cons_succ]
  refine wpAnyH_take (i := 19) (v := .slice ZA 38 zc) rfl (by kernel_rfl) (by kernel_rfl) (by kernel_rfl) (fun _ _ _ h => h) (Or.inl ⟨by rfl, fun W' hS' => by go_simp⟩) hS9 ?_
  simp only [Act.put, List.getElem_toArray, List.getElem_cons_zero, List.getElem_cons_succ, List.setIfInBounds_toArray, List.set_cons_zero, List.set_cons_succ]
  refine wpAnyH_ready (rs := [18]) (by kernel_rfl) (by simp) ?_
  refine AllReadyH.cons rfl (fun Kq hKq => ?_) AllReadyH.nil
  go_simp
  have hS10 := hS9.alloc hS9.size (.cells #[.int .u8 3, .int .u8 1] 5)
  have hO10 := own_bytes_new W9 W9.heap.size (Nat.le_refl _) [3, 1] (by decide)
  have hz10 : W9.heap.size ≤ (W9.alloc (.cells #[.int .u8 3, .int .u8 1] 5)).heap.size := by simp
  have hz9 := hS9.size
  refine hKq.out _ _ hS10 (fun _ => ?_)
  clear hKq Kq hS9
  obtain ⟨g10, hg10⟩ : ∃ g10, g10 = W9.heap.size := ⟨_, rfl⟩
  rw [← hg10] at hO10 hz10 hz9 ⊢
  change World.ownsRow (W9.alloc (.cells #[.int .u8 3, .int .u8 1] 5)) g10 5 1 (.slice (some ⟨g10, 0, none⟩) 2 2) 2 (bcells [3, 1]) at hO10
  generalize W9.alloc (.cells #[.int .u8 3, .int .u8 1] 5) = W10 at hO10 hS10 hz10 ⊢
  clear hg10
  refine wpAnyH_ready (rs := [20]) (by kernel_rfl) (by simp) ?_
  refine AllReadyH.cons rfl (fun Kq hKq => ?_) AllReadyH.nil
  simp only [List.getElem_toArray, List.getElem_cons_zero, List.getElem_cons_succ]
  rw [if_pos (by rfl)]
  refine wp_app_bytes _ _ 39 rfl g10 (.slice (some ⟨g10, 0, none⟩) 2 2) 2 (bcells [3, 1]) rfl hO10 (.slice ZA 38 zc) 38 (bcells zS) rfl (src_bytes (c := zc) _ (Rd.below HRZ.out hS10)) (by decide) hz10 ?_
  intro v11 W11 hown11 hg11
  have hS11 := hS10.trans (hg11.below hS10.size fun k hk => by cases hk; exact hz9)
  obtain ⟨YA, yc, rfl, hr11⟩ := own_done (N := 40) hown11 rfl
  refine hKq.out _ _ hS11 (fun _ => ?_)
  clear hKq Kq hS10 hO10 hown11 hg11 hz10 hz9
  refine wpAnyH_ready (rs := [21]) (by kernel_rfl) (by simp) ?_
  refine AllReadyH.cons rfl (fun Kq hKq => ?_) AllReadyH.nil
  go_simp
  have ht21 := tagged_any ⟨#[98, 101, 97, 99, 111, 110]⟩ YA ([3, 1] ++ zS) yc W11 (HL.out.below (HBW.out.trans (hS11.mono HBW.out.size))) hr11 (by decide) (by decide)
  rw [show tagged (ByteArray.mk #[98, 101, 97, 99, 111, 110]).data.toList ([3, 1] ++ zS) = d1S from rfl, show ([3, 1] ++ zS : List UInt8).length = 40 from rfl] at ht21
  refine ht21.mono ?_
  rintro e w33 ⟨rfl, hb12⟩
  have hk := hS11.trans (hb12.mono hS11.size)
  refine hKq.out _ _ hk (fun _ => ?_)
  clear hKq Kq hb12 hS11 hr11 ht21
  refine wpAnyH_take (i := 22) (v := .bool false) rfl (by kernel_rfl) (by kernel_rfl) (by kernel_rfl) (fun _ _ _ h => h) (yields_neq_same (by rfl) _ _ _ rfl d1S d1_len rfl rfl) hk ?_
  simp only [Act.put, List.getElem_toArray, List.getElem_cons_zero, List.getElem_cons_succ, List.setIfInBounds_toArray, List.set_cons_zero, List.set_cons_succ]
  refine wpAnyH_take (i := 23) (v := .bool false) rfl (by kernel_rfl) (by kernel_rfl) (by kernel_rfl) (fun _ _ _ h => h) (Or.inl ⟨by rfl, fun W' hS' => by go_simp⟩) hk ?_
  simp only [Act.put, List.getElem_toArray, List.getElem_cons_zero, List.getElem_cons_succ, List.setIfInBounds_toArray, List.set_cons_zero, List.set_cons_succ]
  refine wpAnyH_take (i := 24) (v := .bool false) rfl (by kernel_rfl) (by kernel_rfl) (by kernel_rfl) (fun _ _ _ h => h) (Or.inl ⟨by rfl, fun W' hS' => by go_simp⟩) hk ?_
  simp only [Act.put, List.getElem_toArray, List.getElem_cons_zero, List.getElem_cons_succ, List.setIfInBounds_toArray, List.set_cons_zero, List.set_cons_succ]
  refine wpAnyH_take (i := 25) (v := .agg (dig d0S)) rfl (by kernel_rfl) (by kernel_rfl) (by kernel_rfl) (fun _ _ _ h => h) (yields_dig (by rfl) _ rfl _ rfl d0S d0_len (fun W' hS' => HBLo.out.below hS' HBLo.out.lt)) hk ?_
  simp only [Act.put, List.getElem_toArray, List.getElem_cons_zero, List.getElem_cons_succ, List.setIfInBounds_toArray, List.set_cons_zero, List.set_cons_succ]
  refine wpAnyH_take (i := 26) (v := .agg (dig d0S)) rfl (by kernel_rfl) (by kernel_rfl) (by kernel_rfl) (fun _ _ _ h => h) (yields_dig (by rfl) _ rfl _ rfl d0S d0_len (fun W' hS' => HBN.out.below hS' HBN.out.lt)) hk ?_
  simp only [Act.put, List.getElem_toArray, List.getElem_cons_zero, List.getElem_cons_succ, List.setIfInBounds_toArray, List.set_cons_zero, List.set_cons_succ]
  refine wpAnyH_take (i := 27) (v := .bool false) rfl (by kernel_rfl) (by kernel_rfl) (by kernel_rfl) (fun _ _ _ h => h) (yields_neq_same (by rfl) _ _ _ rfl d0S d0_len rfl rfl) hk ?_
  simp only [Act.put, List.getElem_toArray, List.getElem_cons_zero, List.getElem_cons_succ, List.setIfInBounds_toArray, List.set_cons_zero, List.set_cons_succ]
  refine wpAnyH_take (i := 28) (v := .bool false) rfl (by kernel_rfl) (by kernel_rfl) (by kernel_rfl) (fun _ _ _ h => h) (Or.inl ⟨by rfl, fun W' hS' => by go_simp⟩) hk ?_
  simp only [Act.put, List.getElem_toArray, List.getElem_cons_zero, List.getElem_cons_succ, List.setIfInBounds_toArray, List.set_cons_zero, List.set_cons_succ]
  refine wpAnyH_done (by kernel_rfl) ?_ _
  clear K0 KL HRG HT7 HRZ HBW HBN HBD HBLo
  have bv33 := bv32.below hk bv32.lt
  have bp33 := bp32.below hk bp32.lt
  have bn33 := bn32.below hk bn32.lt
  have bd33 := bd32.below hk bd32.lt
  have r333 := (Rd.below r332 hk).more hk.size
  have bl33 := bl32.below hk bl32.lt
  have rb33 := (Rd.below rb32 hk).more hk.size
  have rt33 := (Rd.below rt32 hk).more hk.size
  have rz33 := (Rd.below rz32 hk).more hk.size
  have bf33 := bf32.below hk bf32.lt
  have bg33 := bg32.below hk bg32.lt
  have hB33 := hB32.trans (hk.mono hB32.size)
  clear bv32 bp32 bn32 bd32 r332 bl32 rb32 rt32 rz32 bf32 bg32 hk hB32
  obtain ⟨bb, bo, rfl, hbb, hbc2⟩ := rb33 (by decide)
  obtain ⟨x0, hx0⟩ : ∃ t, t = bitAt vS 0 := ⟨_, rfl⟩
  have Cx0 := Lib.hid (show w33.cell? ⟨bb, bo, none⟩ = some (.int .i64 x0) by
    have h := hbc2 0 (by decide)
    change _ = some (Value.int .i64 ((bitsL vS 257).getD 0 0)) at h
    rw [bitsL_getD vS (by decide), ← hx0] at h
    exact h)
  obtain ⟨x9, hx9⟩ : ∃ t, t = bitAt vS 9 := ⟨_, rfl⟩
  have Cx9 := Lib.hid (show w33.cell? ⟨bb, bo + 9, none⟩ = some (.int .i64 x9) by
    have h := hbc2 9 (by decide)
    change _ = some (Value.int .i64 ((bitsL vS 257).getD 9 0)) at h
    rw [bitsL_getD vS (by decide), ← hx9] at h
    exact h)
  obtain ⟨x255, hx255⟩ : ∃ t, t = bitAt vS 255 := ⟨_, rfl⟩
  have Cx255 := Lib.hid (show w33.cell? ⟨bb, bo + 255, none⟩ = some (.int .i64 x255) by
    have h := hbc2 255 (by decide)
    change _ = some (Value.int .i64 ((bitsL vS 257).getD 255 0)) at h
    rw [bitsL_getD vS (by decide), ← hx255] at h
    exact h)
  obtain ⟨x256, hx256⟩ : ∃ t, t = bitAt vS 256 := ⟨_, rfl⟩
  have Cx256 := Lib.hid (show w33.cell? ⟨bb, bo + 256, none⟩ = some (.int .i64 x256) by
    have h := hbc2 256 (by decide)
    change _ = some (Value.int .i64 ((bitsL vS 257).getD 256 0)) at h
    rw [bitsL_getD vS (by decide), ← hx256] at h
    exact h)
  obtain ⟨y0, hy0⟩ : ∃ t, t = (F1.getD 0 0).toNat := ⟨_, rfl⟩
  have ly0 : y0 < 256 := by rw [hy0]; exact (F1.getD 0 0).toNat_lt
  have Cy0 := Lib.hid (show w33.cell? ⟨w27.heap.size, 0, none⟩ = some (.int .u8 (y0 : Int)) by rw [bf33.cell, dig_get F1 0 (by rw [F1l]; decide), hy0]; rfl)
  obtain ⟨y1, hy1⟩ : ∃ t, t = (F1.getD 1 0).toNat := ⟨_, rfl⟩
  have ly1 : y1 < 256 := by rw [hy1]; exact (F1.getD 1 0).toNat_lt
  have Cy1 := Lib.hid (show w33.cell? ⟨w27.heap.size, 1, none⟩ = some (.int .u8 (y1 : Int)) by rw [bf33.cell, dig_get F1 1 (by rw [F1l]; decide), hy1]; rfl)
  obtain ⟨y31, hy31⟩ : ∃ t, t = (F1.getD 31 0).toNat := ⟨_, rfl⟩
  have ly31 : y31 < 256 := by rw [hy31]; exact (F1.getD 31 0).toNat_lt
  have Cy31 := Lib.hid (show w33.cell? ⟨w27.heap.size, 31, none⟩ = some (.int .u8 (y31 : Int)) by rw [bf33.cell, dig_get F1 31 (by rw [F1l]; decide), hy31]; rfl)
  obtain ⟨z0, hz0⟩ : ∃ t, t = (F2.getD 0 0).toNat := ⟨_, rfl⟩
  have lz0 : z0 < 256 := by rw [hz0]; exact (F2.getD 0 0).toNat_lt
  have Cz0 := Lib.hid (show w33.cell? ⟨w31.heap.size, 0, none⟩ = some (.int .u8 (z0 : Int)) by rw [bg33.cell, dig_get F2 0 (by rw [F2l]; decide), hz0]; rfl)
  have E0 := Lib.hid (show (x0 == wrap64 (bits .and .u8 (y0 : Int) 1)) = true by
    have h := bit_of y0 0 ly0
    rw [Int.pow_zero, Int.ediv_one] at h
    rw [h, hx0, bitAt_of HF1.out 0 rfl 0 rfl 0 rfl, hy0]
    exact beq_self_eq_true _)
  have E9 := Lib.hid (show (x9 == wrap64 (bits .and .u8 ((y1 : Int) / 2) 1)) = true by
    have h := bit_of y1 1 ly1
    rw [show ((2 : Int) ^ 1) = 2 from rfl] at h
    rw [h, hx9, bitAt_of HF1.out 9 rfl 1 rfl 1 rfl, hy1]
    exact beq_self_eq_true _)
  have E255 := Lib.hid (show (x255 == wrap64 ((y31 : Int) / 128)) = true by
    rw [hx255, bitAt_of HF1.out 255 rfl 31 rfl 7 rfl, ← hy31, beq_iff_eq]
    unfold wrap64
    omega)
  have E256 := Lib.hid (show (x256 == wrap64 (bits .and .u8 (z0 : Int) 1)) = true by
    have h := bit_of z0 0 lz0
    rw [Int.pow_zero, Int.ediv_one] at h
    rw [h, hx256, bitAt_of HF2.out 256 rfl 0 rfl 0 rfl, hz0]
    exact beq_self_eq_true _)
  have LF := bf33.lt
  have LG := bg33.lt
  have HR3 := Lib.hid (show Rd w33 w33.heap.size M2 1 (fun k => .int .i64 (([3] : List Int).getD k 0)) from r333)
  have HBW := Lib.hid hB33
  clear hx0 hx9 hx255 hx256 hy0 hy1 hy31 hz0 hbc2 HF1 HF2
  go_wp2_with fail
  refine wp_region_held_drew (S := fun W' => Below w33.heap.size w33 W') (by kernel_rfl) (Below.refl _ _).drew (fun hS => ?_)
  refine wpAnyH_take (i := 0) (v := .slice M0 0 cm0) rfl (by kernel_rfl) (by kernel_rfl) (by kernel_rfl) (fun _ _ _ h => h) (Or.inl ⟨by rfl, fun W' hS' => by go_simp⟩) hS ?_
  simp only [Act.put, List.getElem_toArray, List.getElem_cons_zero, List.getElem_cons_succ, List.setIfInBounds_toArray, List.set_cons_zero, List.set_cons_succ]
  refine wpAnyH_take (i := 1) (v := .int .i64 0) rfl (by kernel_rfl) (by kernel_rfl) (by kernel_rfl) (fun _ _ _ h => h) (Or.inl ⟨by rfl, fun W' hS' => by go_simp⟩) hS ?_
  simp only [Act.put, List.getElem_toArray, List.getElem_cons_zero, List.getElem_cons_succ, List.setIfInBounds_toArray, List.set_cons_zero, List.set_cons_succ]
  refine wpAnyH_take (i := 2) (v := .bool true) rfl (by kernel_rfl) (by kernel_rfl) (by kernel_rfl) (fun _ _ _ h => h) (Or.inl ⟨by rfl, fun W' hS' => by go_simp⟩) hS ?_
  simp only [Act.put, List.getElem_toArray, List.getElem_cons_zero, List.getElem_cons_succ, List.setIfInBounds_toArray, List.set_cons_zero, List.set_cons_succ]
  refine wpAnyH_take (i := 3) (v := .bool true) rfl (by kernel_rfl) (by kernel_rfl) (by kernel_rfl) (fun _ _ _ h => h) (Or.inl ⟨by rfl, fun W' hS' => by go_simp⟩) hS ?_
  simp only [Act.put, List.getElem_toArray, List.getElem_cons_zero, List.getElem_cons_succ, List.setIfInBounds_toArray, List.set_cons_zero, List.set_cons_succ]
  refine wpAnyH_take (i := 4) (v := .slice M1 0 cm1) rfl (by kernel_rfl) (by kernel_rfl) (by kernel_rfl) (fun _ _ _ h => h) (Or.inl ⟨by rfl, fun W' hS' => by go_simp⟩) hS ?_
  simp only [Act.put, List.getElem_toArray, List.getElem_cons_zero, List.getElem_cons_succ, List.setIfInBounds_toArray, List.set_cons_zero, List.set_cons_succ]
  refine wpAnyH_take (i := 5) (v := .int .i64 0) rfl (by kernel_rfl) (by kernel_rfl) (by kernel_rfl) (fun _ _ _ h => h) (Or.inl ⟨by rfl, fun W' hS' => by go_simp⟩) hS ?_
  simp only [Act.put, List.getElem_toArray, List.getElem_cons_zero, List.getElem_cons_succ, List.setIfInBounds_toArray, List.set_cons_zero, List.set_cons_succ]
  refine wpAnyH_take (i := 6) (v := .bool true) rfl (by kernel_rfl) (by kernel_rfl) (by kernel_rfl) (fun _ _ _ h => h) (Or.inl ⟨by rfl, fun W' hS' => by go_simp⟩) hS ?_
  simp only [Act.put, List.getElem_toArray, List.getElem_cons_zero, List.getElem_cons_succ, List.setIfInBounds_toArray, List.set_cons_zero, List.set_cons_succ]
  refine wpAnyH_take (i := 7) (v := .bool true) rfl (by kernel_rfl) (by kernel_rfl) (by kernel_rfl) (fun _ _ _ h => h) (Or.inl ⟨by rfl, fun W' hS' => by go_simp⟩) hS ?_
  simp only [Act.put, List.getElem_toArray, List.getElem_cons_zero, List.getElem_cons_succ, List.setIfInBounds_toArray, List.set_cons_zero, List.set_cons_succ]
  refine wpAnyH_take (i := 8) (v := .bool true) rfl (by kernel_rfl) (by kernel_rfl) (by kernel_rfl) (fun _ _ _ h => h) (Or.inl ⟨by rfl, fun W' hS' => by go_simp⟩) hS ?_
  simp only [Act.put, List.getElem_toArray, List.getElem_cons_zero, List.getElem_cons_succ, List.setIfInBounds_toArray, List.set_cons_zero, List.set_cons_succ]
  refine wpAnyH_take (i := 9) (v := .slice M2 1 cm2) rfl (by kernel_rfl) (by kernel_rfl) (by kernel_rfl) (fun _ _ _ h => h) (Or.inl ⟨by rfl, fun W' hS' => by go_simp⟩) hS ?_
  simp only [Act.put, List.getElem_toArray, List.getElem_cons_zero, List.getElem_cons_succ, List.setIfInBounds_toArray, List.set_cons_zero, List.set_cons_succ]
  refine wpAnyH_ready (rs := [10]) (by kernel_rfl) (by simp) ?_
  refine AllReadyH.cons rfl (fun Kq hKq => ?_) AllReadyH.nil
  go_simp
  have hS6 : Below w33.heap.size w33 (w33.alloc (.cells #[.int .i64 3] 3)).drew := ((Below.refl _ w33).alloc (Nat.le_refl _) _).drew
  have hG6 : Blk (w33.alloc (.cells #[.int .i64 3] 3)).drew w33.heap.size 3 #[.int .i64 3] := (Blk.new w33 _ _).drew
  refine hKq.out _ _ hS6 (fun _ => ?_)
  clear hKq Kq hS
  generalize (w33.alloc (.cells #[.int .i64 3] 3)).drew = W6 at hG6 hS6 ⊢
  refine wpAnyH_ready (rs := [11]) (by kernel_rfl) (by simp) ?_
  refine AllReadyH.cons rfl (fun Kq hKq => ?_) AllReadyH.nil
  go_simp
  have hsm := r31Same_any M2 (some ⟨w33.heap.size, 0, none⟩) [3] [3] cm2 1 W6 ((Rd.below HR3.out hS6).more hS6.size) (Rd.of_blk hG6 hG6.lt fun k hk => by rcases k with _ | k <;> first | rfl | exact absurd hk (by show ¬ k + 1 < 1; omega)) (by decide)
  rw [decide_eq_true rfl] at hsm
  refine hsm.mono ?_
  rintro e W7 ⟨rfl, hb7⟩
  have hk := hS6.trans (hb7.mono hS6.size)
  refine hKq.out _ _ hk (fun _ => ?_)
  clear hKq Kq hb7 hS6 hG6 hsm
  refine wpAnyH_take (i := 12) (v := .bool true) rfl (by kernel_rfl) (by kernel_rfl) (by kernel_rfl) (fun _ _ _ h => h) (Or.inl ⟨by rfl, fun W' hS' => by go_simp⟩) hk ?_
  simp only [Act.put, List.getElem_toArray, List.getElem_cons_zero, List.getElem_cons_succ, List.setIfInBounds_toArray, List.set_cons_zero, List.set_cons_succ]
  refine wpAnyH_take (i := 13) (v := .bool true) rfl (by kernel_rfl) (by kernel_rfl) (by kernel_rfl) (fun _ _ _ h => h) (Or.inl ⟨by rfl, fun W' hS' => by go_simp⟩) hk ?_
  simp only [Act.put, List.getElem_toArray, List.getElem_cons_zero, List.getElem_cons_succ, List.setIfInBounds_toArray, List.set_cons_zero, List.set_cons_succ]
  refine wpAnyH_take (i := 14) (v := .slice (some ⟨bb, bo, none⟩) 257 bc) rfl (by kernel_rfl) (by kernel_rfl) (by kernel_rfl) (fun _ _ _ h => h) (Or.inl ⟨by rfl, fun W' hS' => by go_simp⟩) hk ?_
  simp only [Act.put, List.getElem_toArray, List.getElem_cons_zero, List.getElem_cons_succ, List.setIfInBounds_toArray, List.set_cons_zero, List.set_cons_succ]
  refine wpAnyH_take (i := 15) (v := .pointer (some ⟨bb, bo, none⟩)) rfl (by kernel_rfl) (by kernel_rfl) (by kernel_rfl) (fun _ _ _ h => h) (Or.inl ⟨by rfl, fun W' hS' => by go_simp⟩) hk ?_
  simp only [Act.put, List.getElem_toArray, List.getElem_cons_zero, List.getElem_cons_succ, List.setIfInBounds_toArray, List.set_cons_zero, List.set_cons_succ]
  refine wpAnyH_take (i := 16) (v := .int .i64 x0) rfl (by kernel_rfl) (by kernel_rfl) (by kernel_rfl) (fun _ _ _ h => h) (Or.inl ⟨by rfl, fun W' hS' => by have := (hS'.cell (p := ⟨bb, bo, none⟩) hbb).trans Cx0.out; go_simp⟩) hk ?_
  simp only [Act.put, List.getElem_toArray, List.getElem_cons_zero, List.getElem_cons_succ, List.setIfInBounds_toArray, List.set_cons_zero, List.set_cons_succ]
  refine wpAnyH_take (i := 17) (v := .pointer (some ⟨w27.heap.size, 0, none⟩)) rfl (by kernel_rfl) (by kernel_rfl) (by kernel_rfl) (fun _ _ _ h => h) (Or.inl ⟨by rfl, fun W' hS' => by go_simp⟩) hk ?_
  simp only [Act.put, List.getElem_toArray, List.getElem_cons_zero, List.getElem_cons_succ, List.setIfInBounds_toArray, List.set_cons_zero, List.set_cons_succ]
  refine wpAnyH_take (i := 18) (v := .int .u8 (y0 : Int)) rfl (by kernel_rfl) (by kernel_rfl) (by kernel_rfl) (fun _ _ _ h => h) (Or.inl ⟨by rfl, fun W' hS' => by have := (hS'.cell (p := ⟨w27.heap.size, 0, none⟩) LF).trans Cy0.out; go_simp⟩) hk ?_
  simp only [Act.put, List.getElem_toArray, List.getElem_cons_zero, List.getElem_cons_succ, List.setIfInBounds_toArray, List.set_cons_zero, List.set_cons_succ]
  refine wpAnyH_take (i := 19) (v := .int .u8 (bits .and .u8 (y0 : Int) 1)) rfl (by kernel_rfl) (by kernel_rfl) (by kernel_rfl) (fun _ _ _ h => h) (Or.inl ⟨by rfl, fun W' hS' => by go_simp⟩) hk ?_
  simp only [Act.put, List.getElem_toArray, List.getElem_cons_zero, List.getElem_cons_succ, List.setIfInBounds_toArray, List.set_cons_zero, List.set_cons_succ]
  refine wpAnyH_take (i := 20) (v := .int .i64 (wrap64 (bits .and .u8 (y0 : Int) 1))) rfl (by kernel_rfl) (by kernel_rfl) (by kernel_rfl) (fun _ _ _ h => h) (Or.inl ⟨by rfl, fun W' hS' => by go_simp; exact wrap_is _⟩) hk ?_
  simp only [Act.put, List.getElem_toArray, List.getElem_cons_zero, List.getElem_cons_succ, List.setIfInBounds_toArray, List.set_cons_zero, List.set_cons_succ]
  refine wpAnyH_take (i := 21) (v := .bool true) rfl (by kernel_rfl) (by kernel_rfl) (by kernel_rfl) (fun _ _ _ h => h) (Or.inl ⟨by rfl, fun W' hS' => by have := E0.out; go_simp⟩) hk ?_
  simp only [Act.put, List.getElem_toArray, List.getElem_cons_zero, List.getElem_cons_succ, List.setIfInBounds_toArray, List.set_cons_zero, List.set_cons_succ]
  refine wpAnyH_take (i := 22) (v := .bool true) rfl (by kernel_rfl) (by kernel_rfl) (by kernel_rfl) (fun _ _ _ h => h) (Or.inl ⟨by rfl, fun W' hS' => by go_simp⟩) hk ?_
  simp only [Act.put, List.getElem_toArray, List.getElem_cons_zero, List.getElem_cons_succ, List.setIfInBounds_toArray, List.set_cons_zero, List.set_cons_succ]
  refine wpAnyH_take (i := 23) (v := .bool true) rfl (by kernel_rfl) (by kernel_rfl) (by kernel_rfl) (fun _ _ _ h => h) (Or.inl ⟨by rfl, fun W' hS' => by go_simp⟩) hk ?_
  simp only [Act.put, List.getElem_toArray, List.getElem_cons_zero, List.getElem_cons_succ, List.setIfInBounds_toArray, List.set_cons_zero, List.set_cons_succ]
  refine wpAnyH_take (i := 24) (v := .slice (some ⟨bb, bo, none⟩) 257 bc) rfl (by kernel_rfl) (by kernel_rfl) (by kernel_rfl) (fun _ _ _ h => h) (Or.inl ⟨by rfl, fun W' hS' => by go_simp⟩) hk ?_
  simp only [Act.put, List.getElem_toArray, List.getElem_cons_zero, List.getElem_cons_succ, List.setIfInBounds_toArray, List.set_cons_zero, List.set_cons_succ]
  refine wpAnyH_take (i := 25) (v := .pointer (some ⟨bb, bo + 9, none⟩)) rfl (by kernel_rfl) (by kernel_rfl) (by kernel_rfl) (fun _ _ _ h => h) (Or.inl ⟨by rfl, fun W' hS' => by go_simp⟩) hk ?_
  simp only [Act.put, List.getElem_toArray, List.getElem_cons_zero, List.getElem_cons_succ, List.setIfInBounds_toArray, List.set_cons_zero, List.set_cons_succ]
  refine wpAnyH_take (i := 26) (v := .int .i64 x9) rfl (by kernel_rfl) (by kernel_rfl) (by kernel_rfl) (fun _ _ _ h => h) (Or.inl ⟨by rfl, fun W' hS' => by have := (hS'.cell (p := ⟨bb, bo + 9, none⟩) hbb).trans Cx9.out; go_simp⟩) hk ?_
  simp only [Act.put, List.getElem_toArray, List.getElem_cons_zero, List.getElem_cons_succ, List.setIfInBounds_toArray, List.set_cons_zero, List.set_cons_succ]
  refine wpAnyH_take (i := 27) (v := .pointer (some ⟨w27.heap.size, 1, none⟩)) rfl (by kernel_rfl) (by kernel_rfl) (by kernel_rfl) (fun _ _ _ h => h) (Or.inl ⟨by rfl, fun W' hS' => by go_simp⟩) hk ?_
  simp only [Act.put, List.getElem_toArray, List.getElem_cons_zero, List.getElem_cons_succ, List.setIfInBounds_toArray, List.set_cons_zero, List.set_cons_succ]
  refine wpAnyH_take (i := 28) (v := .int .u8 (y1 : Int)) rfl (by kernel_rfl) (by kernel_rfl) (by kernel_rfl) (fun _ _ _ h => h) (Or.inl ⟨by rfl, fun W' hS' => by have := (hS'.cell (p := ⟨w27.heap.size, 1, none⟩) LF).trans Cy1.out; go_simp⟩) hk ?_
  simp only [Act.put, List.getElem_toArray, List.getElem_cons_zero, List.getElem_cons_succ, List.setIfInBounds_toArray, List.set_cons_zero, List.set_cons_succ]
  refine wpAnyH_take (i := 29) (v := .int .u8 ((y1 : Int) / 2)) rfl (by kernel_rfl) (by kernel_rfl) (by kernel_rfl) (fun _ _ _ h => h) (Or.inl ⟨by rfl, fun W' hS' => by go_simp⟩) hk ?_
  simp only [Act.put, List.getElem_toArray, List.getElem_cons_zero, List.getElem_cons_succ, List.setIfInBounds_toArray, List.set_cons_zero, List.set_cons_succ]
  refine wpAnyH_take (i := 30) (v := .int .u8 (bits .and .u8 ((y1 : Int) / 2) 1)) rfl (by kernel_rfl) (by kernel_rfl) (by kernel_rfl) (fun _ _ _ h => h) (Or.inl ⟨by rfl, fun W' hS' => by go_simp⟩) hk ?_
  simp only [Act.put, List.getElem_toArray, List.getElem_cons_zero, List.getElem_cons_succ, List.setIfInBounds_toArray, List.set_cons_zero, List.set_cons_succ]
  refine wpAnyH_take (i := 31) (v := .int .i64 (wrap64 (bits .and .u8 ((y1 : Int) / 2) 1))) rfl (by kernel_rfl) (by kernel_rfl) (by kernel_rfl) (fun _ _ _ h => h) (Or.inl ⟨by rfl, fun W' hS' => by go_simp; exact wrap_is _⟩) hk ?_
  simp only [Act.put, List.getElem_toArray, List.getElem_cons_zero, List.getElem_cons_succ, List.setIfInBounds_toArray, List.set_cons_zero, List.set_cons_succ]
  refine wpAnyH_take (i := 32) (v := .bool true) rfl (by kernel_rfl) (by kernel_rfl) (by kernel_rfl) (fun _ _ _ h => h) (Or.inl ⟨by rfl, fun W' hS' => by have := E9.out; go_simp⟩) hk ?_
  simp only [Act.put, List.getElem_toArray, List.getElem_cons_zero, List.getElem_cons_succ, List.setIfInBounds_toArray, List.set_cons_zero, List.set_cons_succ]
  refine wpAnyH_take (i := 33) (v := .bool true) rfl (by kernel_rfl) (by kernel_rfl) (by kernel_rfl) (fun _ _ _ h => h) (Or.inl ⟨by rfl, fun W' hS' => by go_simp⟩) hk ?_
  simp only [Act.put, List.getElem_toArray, List.getElem_cons_zero, List.getElem_cons_succ, List.setIfInBounds_toArray, List.set_cons_zero, List.set_cons_succ]
  refine wpAnyH_take (i := 34) (v := .bool true) rfl (by kernel_rfl) (by kernel_rfl) (by kernel_rfl) (fun _ _ _ h => h) (Or.inl ⟨by rfl, fun W' hS' => by go_simp⟩) hk ?_
  simp only [Act.put, List.getElem_toArray, List.getElem_cons_zero, List.getElem_cons_succ, List.setIfInBounds_toArray, List.set_cons_zero, List.set_cons_succ]
  refine wpAnyH_take (i := 35) (v := .slice (some ⟨bb, bo, none⟩) 257 bc) rfl (by kernel_rfl) (by kernel_rfl) (by kernel_rfl) (fun _ _ _ h => h) (Or.inl ⟨by rfl, fun W' hS' => by go_simp⟩) hk ?_
  simp only [Act.put, List.getElem_toArray, List.getElem_cons_zero, List.getElem_cons_succ, List.setIfInBounds_toArray, List.set_cons_zero, List.set_cons_succ]
  refine wpAnyH_take (i := 36) (v := .pointer (some ⟨bb, bo + 255, none⟩)) rfl (by kernel_rfl) (by kernel_rfl) (by kernel_rfl) (fun _ _ _ h => h) (Or.inl ⟨by rfl, fun W' hS' => by go_simp⟩) hk ?_
  simp only [Act.put, List.getElem_toArray, List.getElem_cons_zero, List.getElem_cons_succ, List.setIfInBounds_toArray, List.set_cons_zero, List.set_cons_succ]
  refine wpAnyH_take (i := 37) (v := .int .i64 x255) rfl (by kernel_rfl) (by kernel_rfl) (by kernel_rfl) (fun _ _ _ h => h) (Or.inl ⟨by rfl, fun W' hS' => by have := (hS'.cell (p := ⟨bb, bo + 255, none⟩) hbb).trans Cx255.out; go_simp⟩) hk ?_
  simp only [Act.put, List.getElem_toArray, List.getElem_cons_zero, List.getElem_cons_succ, List.setIfInBounds_toArray, List.set_cons_zero, List.set_cons_succ]
  refine wpAnyH_take (i := 38) (v := .pointer (some ⟨w27.heap.size, 31, none⟩)) rfl (by kernel_rfl) (by kernel_rfl) (by kernel_rfl) (fun _ _ _ h => h) (Or.inl ⟨by rfl, fun W' hS' => by go_simp⟩) hk ?_
  simp only [Act.put, List.getElem_toArray, List.getElem_cons_zero, List.getElem_cons_succ, List.setIfInBounds_toArray, List.set_cons_zero, List.set_cons_succ]
  refine wpAnyH_take (i := 39) (v := .int .u8 (y31 : Int)) rfl (by kernel_rfl) (by kernel_rfl) (by kernel_rfl) (fun _ _ _ h => h) (Or.inl ⟨by rfl, fun W' hS' => by have := (hS'.cell (p := ⟨w27.heap.size, 31, none⟩) LF).trans Cy31.out; go_simp⟩) hk ?_
  simp only [Act.put, List.getElem_toArray, List.getElem_cons_zero, List.getElem_cons_succ, List.setIfInBounds_toArray, List.set_cons_zero, List.set_cons_succ]
  refine wpAnyH_take (i := 40) (v := .int .u8 ((y31 : Int) / 128)) rfl (by kernel_rfl) (by kernel_rfl) (by kernel_rfl) (fun _ _ _ h => h) (Or.inl ⟨by rfl, fun W' hS' => by go_simp⟩) hk ?_
  simp only [Act.put, List.getElem_toArray, List.getElem_cons_zero, List.getElem_cons_succ, List.setIfInBounds_toArray, List.set_cons_zero, List.set_cons_succ]
  refine wpAnyH_take (i := 41) (v := .int .i64 (wrap64 ((y31 : Int) / 128))) rfl (by kernel_rfl) (by kernel_rfl) (by kernel_rfl) (fun _ _ _ h => h) (Or.inl ⟨by rfl, fun W' hS' => by go_simp; exact wrap_is _⟩) hk ?_
  simp only [Act.put, List.getElem_toArray, List.getElem_cons_zero, List.getElem_cons_succ, List.setIfInBounds_toArray, List.set_cons_zero, List.set_cons_succ]
  refine wpAnyH_take (i := 42) (v := .bool true) rfl (by kernel_rfl) (by kernel_rfl) (by kernel_rfl) (fun _ _ _ h => h) (Or.inl ⟨by rfl, fun W' hS' => by have := E255.out; go_simp⟩) hk ?_
  simp only [Act.put, List.getElem_toArray, List.getElem_cons_zero, List.getElem_cons_succ, List.setIfInBounds_toArray, List.set_cons_zero, List.set_cons_succ]
  refine wpAnyH_take (i := 43) (v := .bool true) rfl (by kernel_rfl) (by kernel_rfl) (by kernel_rfl) (fun _ _ _ h => h) (Or.inl ⟨by rfl, fun W' hS' => by go_simp⟩) hk ?_
  simp only [Act.put, List.getElem_toArray, List.getElem_cons_zero, List.getElem_cons_succ, List.setIfInBounds_toArray, List.set_cons_zero, List.set_cons_succ]
  refine wpAnyH_take (i := 44) (v := .bool true) rfl (by kernel_rfl) (by kernel_rfl) (by kernel_rfl) (fun _ _ _ h => h) (Or.inl ⟨by rfl, fun W' hS' => by go_simp⟩) hk ?_
  simp only [Act.put, List.getElem_toArray, List.getElem_cons_zero, List.getElem_cons_succ, List.setIfInBounds_toArray, List.set_cons_zero, List.set_cons_succ]
  refine wpAnyH_take (i := 45) (v := .slice (some ⟨bb, bo, none⟩) 257 bc) rfl (by kernel_rfl) (by kernel_rfl) (by kernel_rfl) (fun _ _ _ h => h) (Or.inl ⟨by rfl, fun W' hS' => by go_simp⟩) hk ?_
  simp only [Act.put, List.getElem_toArray, List.getElem_cons_zero, List.getElem_cons_succ, List.setIfInBounds_toArray, List.set_cons_zero, List.set_cons_succ]
  refine wpAnyH_take (i := 46) (v := .pointer (some ⟨bb, bo + 256, none⟩)) rfl (by kernel_rfl) (by kernel_rfl) (by kernel_rfl) (fun _ _ _ h => h) (Or.inl ⟨by rfl, fun W' hS' => by go_simp⟩) hk ?_
  simp only [Act.put, List.getElem_toArray, List.getElem_cons_zero, List.getElem_cons_succ, List.setIfInBounds_toArray, List.set_cons_zero, List.set_cons_succ]
  refine wpAnyH_take (i := 47) (v := .int .i64 x256) rfl (by kernel_rfl) (by kernel_rfl) (by kernel_rfl) (fun _ _ _ h => h) (Or.inl ⟨by rfl, fun W' hS' => by have := (hS'.cell (p := ⟨bb, bo + 256, none⟩) hbb).trans Cx256.out; go_simp⟩) hk ?_
  simp only [Act.put, List.getElem_toArray, List.getElem_cons_zero, List.getElem_cons_succ, List.setIfInBounds_toArray, List.set_cons_zero, List.set_cons_succ]
  refine wpAnyH_take (i := 48) (v := .pointer (some ⟨w31.heap.size, 0, none⟩)) rfl (by kernel_rfl) (by kernel_rfl) (by kernel_rfl) (fun _ _ _ h => h) (Or.inl ⟨by rfl, fun W' hS' => by go_simp⟩) hk ?_
  simp only [Act.put, List.getElem_toArray, List.getElem_cons_zero, List.getElem_cons_succ, List.setIfInBounds_toArray, List.set_cons_zero, List.set_cons_succ]
  refine wpAnyH_take (i := 49) (v := .int .u8 (z0 : Int)) rfl (by kernel_rfl) (by kernel_rfl) (by kernel_rfl) (fun _ _ _ h => h) (Or.inl ⟨by rfl, fun W' hS' => by have := (hS'.cell (p := ⟨w31.heap.size, 0, none⟩) LG).trans Cz0.out; go_simp⟩) hk ?_
  simp only [Act.put, List.getElem_toArray, List.getElem_cons_zero, List.getElem_cons_succ, List.setIfInBounds_toArray, List.set_cons_zero, List.set_cons_succ]
  refine wpAnyH_take (i := 50) (v := .int .u8 (bits .and .u8 (z0 : Int) 1)) rfl (by kernel_rfl) (by kernel_rfl) (by kernel_rfl) (fun _ _ _ h => h) (Or.inl ⟨by rfl, fun W' hS' => by go_simp⟩) hk ?_
  simp only [Act.put, List.getElem_toArray, List.getElem_cons_zero, List.getElem_cons_succ, List.setIfInBounds_toArray, List.set_cons_zero, List.set_cons_succ]
  refine wpAnyH_take (i := 51) (v := .int .i64 (wrap64 (bits .and .u8 (z0 : Int) 1))) rfl (by kernel_rfl) (by kernel_rfl) (by kernel_rfl) (fun _ _ _ h => h) (Or.inl ⟨by rfl, fun W' hS' => by go_simp; exact wrap_is _⟩) hk ?_
  simp only [Act.put, List.getElem_toArray, List.getElem_cons_zero, List.getElem_cons_succ, List.setIfInBounds_toArray, List.set_cons_zero, List.set_cons_succ]
  refine wpAnyH_take (i := 52) (v := .bool true) rfl (by kernel_rfl) (by kernel_rfl) (by kernel_rfl) (fun _ _ _ h => h) (Or.inl ⟨by rfl, fun W' hS' => by have := E256.out; go_simp⟩) hk ?_
  simp only [Act.put, List.getElem_toArray, List.getElem_cons_zero, List.getElem_cons_succ, List.setIfInBounds_toArray, List.set_cons_zero, List.set_cons_succ]
  refine wpAnyH_take (i := 53) (v := .bool true) rfl (by kernel_rfl) (by kernel_rfl) (by kernel_rfl) (fun _ _ _ h => h) (Or.inl ⟨by rfl, fun W' hS' => by go_simp⟩) hk ?_
  simp only [Act.put, List.getElem_toArray, List.getElem_cons_zero, List.getElem_cons_succ, List.setIfInBounds_toArray, List.set_cons_zero, List.set_cons_succ]
  refine wpAnyH_take (i := 54) (v := .bool true) rfl (by kernel_rfl) (by kernel_rfl) (by kernel_rfl) (fun _ _ _ h => h) (Or.inl ⟨by rfl, fun W' hS' => by go_simp⟩) hk ?_
  simp only [Act.put, List.getElem_toArray, List.getElem_cons_zero, List.getElem_cons_succ, List.setIfInBounds_toArray, List.set_cons_zero, List.set_cons_succ]
  refine wpAnyH_done (by kernel_rfl) ?_ _
  have hBf := HBW.out.trans (hk.mono HBW.out.size)
  go_wp2
  go_ret
  exact ⟨rfl, hBf⟩
end Go.Proofs.YtibnikokgbfcdaaDoor

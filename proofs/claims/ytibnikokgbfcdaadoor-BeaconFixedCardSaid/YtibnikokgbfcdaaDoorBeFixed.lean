/- The law podiumlaw31.BeaconFixed: for all pledges and reveals she returns true. -/
import Derived.Test.YtibnikokgbfcdaaDoorBeIdle
import Derived.Test.YtibnikokgbfcdaaDoorTX
namespace Go.Proofs.YtibnikokgbfcdaaDoor
open Go Go.RowKit

theorem wp_conv_str {o : Oper} {a : Act} {K : Act → World → Prop} {Q : Exit → Act → World → Prop} (x : Operand) (ho : o.op = .convert 9 39 x) (w : World) (s : ByteArray) (hs : s.size ≤ 140737488355328) (hx : a.eval x = .string s)
    (h : ∀ c w1, s.size ≤ c → c ≤ 9223372036854775807 → RdB w1 w1.heap.size (some ⟨w.heap.size, 0, none⟩) s.data.toList → Below w.heap.size w w1 → w1.heap.size = w.heap.size + 1 →
      K (a.put o.dst (.slice (some ⟨w.heap.size, 0, none⟩) s.size c)) w1) : Oper.wp Tryd.prog o a w K Q := by
  have hrun := Lib.run_convert_string_bytes (P := Tryd.prog) w 9 39 5 s Tryd.underlying9 Tryd.underlying39 Tryd.underlying5
  have hc := grownCap_ge w s.size 0 5
  have hc2 := grownCap_le_maxLen w s.size 0 5 (by simp only [maxLen]; omega)
  unfold Oper.wp execOp
  simp only [ho, hx, Sem.run_bind, Result.andThen_ok, hrun]
  refine h _ _ hc hc2 ?_ ?_ (Lib.bytesWorld_size _ _ _)
  · intro _
    exact ⟨w.heap.size, 0, rfl, by rw [Lib.bytesWorld_size]; omega, fun k hk => by
      rw [Nat.zero_add, Lib.bytesWorld_cell w 5 s k hk]
      rfl⟩
  · exact ⟨rfl, rfl, rfl, by rw [Lib.bytesWorld_size]; omega, fun k hk => Lib.bytesWorld_at_old w 5 s k hk⟩
theorem yields_eql_dig {ops : Array Oper} {o : Oper} {a : Act} {S : World → Prop} (hw : Region.wanted o (yielded ops a.tmps) = true) (x y : Operand) (t : TypeId) (ho : o.op = .binOp .eql 23 x y t) (d e : List UInt8) (hd : d.length = 32) (he : e.length = 32)
    (hx : a.eval x = .agg (dig d)) (hy : a.eval y = .agg (dig e)) (b : Bool) (hb : decide (d = e) = b) : YieldsIf Tryd.prog ops S o (.bool b) a :=
  .inl ⟨hw, fun w _ => by
    have hg : (eqGuard .eql 23 x y (.agg (dig d)) (.agg (dig e))).run Tryd.prog w = .ok () w := run_eqGuard_agg _ _ _ _ _ _ _ Tryd.eqGuardType23
    unfold execOp
    simp only [ho, hx, hy, hg, run_eql_dig d e hd he w, Sem.run_bind, Sem.run_pure, Result.andThen_ok]
    rw [hb]⟩
/-- The text of a reveal, and its digest. -/
theorem tag_text (k : Nat) (v T : List UInt8) (hT : T = commitText k v) (hk : k < 24) (hv : v.length = 32) (w7 w : World) (HL : Hid (Laid w)) (HBW : Hid (Below w.heap.size w w7)) (V : World) (g c : Nat) (h : Below w7.heap.size w7 V) (hr : RdB V V.heap.size (some ⟨g, 0, none⟩) (ByteArray.mk T.toArray).data.toList) :
    Calls Tryd.prog 58 #[.string ⟨#[112, 108, 101, 100, 103, 101]⟩, .slice (some ⟨g, 0, none⟩) (ByteArray.mk T.toArray).size c] V (Ret (.agg (dig (commitOf k v))) V) := by
  have hl := commitText_len k v (by omega) hv
  have e : (ByteArray.mk T.toArray).data.toList = T := rfl
  have e2 : (ByteArray.mk T.toArray).size = T.length := rfl
  rw [e] at hr
  rw [e2]
  have ht := tagged_any ⟨#[112, 108, 101, 100, 103, 101]⟩ (some ⟨g, 0, none⟩) T c V (HL.out.below (HBW.out.trans (h.mono HBW.out.size))) hr (by rw [hT]; omega) (by decide)
  rw [hT] at ht
  rw [hT]
  exact ht
set_option maxRecDepth 100000 in
set_option linter.unusedSimpArgs false in
set_option linter.unusedVariables false in
set_option maxHeartbeats 16000000 in
theorem fixed_good (A B C : Option Addr) (l m s : List Pd) (n c k c2 q c3 : Nat) (hn : n = l.length) (hk : k = m.length) (hq : q = s.length) (hil : PdInts l) (him : PdInts m) (his : PdInts s) (w : World) (hL : Laid w) (hA : PRd w w.heap.size A l) (hB : PRd w w.heap.size B m) (hC : PRd w w.heap.size C s) (hf : inForm l) (hg : inForm m) (hh : inForm s) :
    Calls Tryd.prog 17 #[.slice A n c, .slice B k c2, .slice C q c3] w (Ret (.bool true) w) := by
  have hn24 := hf.length
  have hk24 := hg.length
  have hq24 := hh.length
  rw [← hn] at hn24
  rw [← hk] at hk24
  rw [← hq] at hq24
  have HS := Lib.hid (fun W h => sane31_ok W h)
  have HL := Lib.hid hL
  have HV1 := Lib.hid (fun W (hb : Below w.heap.size w W) => bValue_good A B l m n c k c2 hn hk (by omega) hil him W (HL.out.below hb) ((hA.below hb).more hb.size) ((hB.below hb).more hb.size) hf hg)
  have HV2 := Lib.hid (fun W (hb : Below w.heap.size w W) => bValue_good A C l s n c q c3 hn hq (by omega) hil his W (HL.out.below hb) ((hA.below hb).more hb.size) ((hC.below hb).more hb.size) hf hh)
  have HFO := Lib.hid (fun W (hb : Below w.heap.size w W) => formed31_any A B l m n c k c2 hn hk hil him W ((hA.below hb).more hb.size) ((hB.below hb).more hb.size))
  have HFP := Lib.hid (fun W (hb : Below w.heap.size w W) => formed31_any A C l s n c q c3 hn hq hil his W ((hA.below hb).more hb.size) ((hC.below hb).more hb.size))
  rw [formB_true.2 hf, formB_true.2 hg, Bool.and_true] at HFO
  rw [formB_true.2 hf, formB_true.2 hh, Bool.and_true] at HFP
  have HNO := Lib.hid (fun h1 h2 => no_hits hf hg hh (m := m) (n := s) h1 h2)
  have HA := Lib.hid hA
  have HB := Lib.hid hB
  have HC := Lib.hid hC
  have HN := Lib.hid hn
  have HK := Lib.hid hk
  have HQ := Lib.hid hq
  have HF := Lib.hid hf
  have HG := Lib.hid hg
  have HH := Lib.hid hh
  clear hL hA hB hC hn hk hq hil him his hf hg hh
  go_enter Tryd.func17, Tryd.ntmps17
  go_wp2_with fail
  refine (HS.out w HL.out).mono ?_
  rintro e w1 ⟨rfl, hb1⟩
  go_wp2_with fail
  refine (HFO.out w1 hb1).mono ?_
  rintro e w2 ⟨rfl, hb2⟩
  have hB2 := hb1.trans (hb2.mono hb1.size)
  clear hb1 hb2
  go_wp2_with fail
  refine (HFP.out w2 hB2).mono ?_
  rintro e w3 ⟨rfl, hb3⟩
  have hB3 := hB2.trans (hb3.mono hB2.size)
  clear hB2 hb3
  go_wp2_with fail
  refine (HV1.out w3 hB3).mono ?_
  rintro e w4 ⟨M1, q1, cm1, rfl, hq1, hqc1, hcm1, rm4, hb4⟩
  have hB4 := hB3.trans (hb4.mono hB3.size)
  obtain ⟨V1, hV1⟩ : ∃ V, V = valueOf l m := ⟨_, rfl⟩
  have hV1l : V1.length = 32 := by rw [hV1]; exact tagged_length _ _
  rw [← hV1]
  have HVE1 := Lib.hid hV1
  have HQ1 := Lib.hid hq1
  clear hB3 hb4 hV1 hq1
  go_wp2_with (refine store_dig_new rfl _ _ rfl w4 _ _ V1 hV1l rfl rfl rfl ?_)
  refine calls_gen (fun W => Blk W w4.heap.size 23 (dig V1) ∧ Below w4.heap.size w4 W) ⟨Blk.new _ _ _, (Below.refl _ _).alloc (Nat.le_refl _) _⟩ (fun w5 ⟨bv5, hb5⟩ => ?_)
  have rm5 := (Rd.below rm4 hb5).more hb5.size
  have hB5 := hB4.trans (hb5.mono hB4.size)
  clear rm4 hB4 hb5
  refine (HV2.out w5 hB5).mono ?_
  rintro e w6 ⟨M2, q2, cm2, rfl, hq2, hqc2, hcm2, rn6, hb6⟩
  have rm6 := (Rd.below rm5 hb6).more hb6.size
  have bv6 := bv5.below hb6 bv5.lt
  have hB6 := hB5.trans (hb6.mono hB5.size)
  obtain ⟨V2, hV2⟩ : ∃ V, V = valueOf l s := ⟨_, rfl⟩
  have hV2l : V2.length = 32 := by rw [hV2]; exact tagged_length _ _
  rw [← hV2]
  have HVE2 := Lib.hid hV2
  have HQ2 := Lib.hid hq2
  have BV6 := Lib.hid bv6
  have RM6 := Lib.hid rm6
  have RN6 := Lib.hid rn6
  have HB6 := Lib.hid hB6
  clear hB5 hb6 rm5 bv5 bv6 rm6 rn6 hB6 hV2 hq2
  go_wp2_with (refine store_dig_new rfl _ _ rfl w6 _ _ V2 hV2l rfl rfl rfl ?_)
  refine calls_gen (fun W => Blk W w6.heap.size 23 (dig V2) ∧ Below w6.heap.size w6 W) ⟨Blk.new _ _ _, (Below.refl _ _).alloc (Nat.le_refl _) _⟩ (fun w7 ⟨bw7, hb7⟩ => ?_)
  have bv7 := BV6.out.below hb7 BV6.out.lt
  have hB7 := HB6.out.trans (hb7.mono HB6.out.size)
  have hsm := r31Same_any M1 M2 (missingOf l m) (missingOf l s) cm1 cm2 w7 (by rw [← HQ1.out]; exact (Rd.below RM6.out hb7).more hb7.size) (by rw [← HQ2.out]; exact (Rd.below RN6.out hb7).more hb7.size) (by have := missingOf_le l m; have := HN.out; omega)
  rw [← HQ1.out, ← HQ2.out] at hsm
  refine hsm.mono ?_
  rintro e w8 ⟨rfl, hb8⟩
  have BV8 := Lib.hid (bv7.below hb8 bv7.lt)
  have BW8 := Lib.hid (bw7.below hb8 bw7.lt)
  have HB8 := Lib.hid (hB7.trans (hb8.mono hB7.size))
  clear bv7 bw7 hB7 hb7 hb8 hsm BV6 RM6 RN6 HB6
  by_cases s1 : missingOf l m = missingOf l s
  rotate_left
  · rw [decide_eq_false s1]
    clear s1
    go_wp2_with (refine wpList_skip (by rfl) ?_)
    go_ret
    exact ⟨rfl, HB8.out⟩
  by_cases s2 : V1 = V2
  · rw [decide_eq_true s1]
    have HE := Lib.hid (decide_eq_true s2)
    clear s1 s2
    go_wp2_with (first
      | (refine load_dig_g (by rfl) _ rfl w4.heap.size 0 rfl V1 hV1l (rangeAt_of_dig BV8.out) ?_)
      | (refine load_dig_g (by rfl) _ rfl w6.heap.size 0 rfl V2 hV2l (rangeAt_of_dig BW8.out) ?_)
      | (refine b_eql_g (by rfl) _ _ _ rfl V1 V2 hV1l hV2l rfl rfl true HE.out ?_))
    go_ret
    exact ⟨rfl, HB8.out⟩
  · rw [decide_eq_true s1]
    have HE := Lib.hid (decide_eq_false s2)
    have HNH0 := Lib.hid (HNO.out s1 (by rw [← HVE1.out, ← HVE2.out]; exact s2))
    clear s1 s2
    go_wp2_with (first
      | (refine load_dig_g (by rfl) _ rfl w4.heap.size 0 rfl V1 hV1l (rangeAt_of_dig BV8.out) ?_)
      | (refine load_dig_g (by rfl) _ rfl w6.heap.size 0 rfl V2 hV2l (rangeAt_of_dig BW8.out) ?_)
      | (refine b_eql_g (by rfl) _ _ _ rfl V1 V2 hV1l hV2l rfl rfl false HE.out ?_))
    clear BV8 BW8 hqc1 hqc2 hcm1 hcm2 HQ1 HQ2 HNO HVE1 HVE2 HE
    go_loopw [62] (fun ii wr => ∃ t : Nat, t ≤ k ∧ ii = .int .i64 t ∧ (∀ x ∈ m.take t, ∀ y ∈ s, ∀ p ∈ l, ¬ Hit x y p) ∧ Below w8.heap.size w8 wr) (fun ii _ => k - (intOf ii).toNat)
    case atStart => exact ⟨0, by omega, rfl, fun x hx => by simp at hx, Below.refl _ _⟩
    case round =>
      obtain ⟨t, ht, rfl, hall, hBr⟩ := hrel
      have hBw := HB8.out.trans (hBr.mono HB8.out.size)
      have HALL1 := Lib.hid hall
      have HBR := Lib.hid hBr
      have HBW := Lib.hid hBw
      clear hall hBr hBw
      by_cases hlt : t < k
      · obtain ⟨b3, off3, rfl, hbl3, hx3⟩ := (HB.out.below HBW.out).at_ (k := t) (by rw [← HK.out]; exact hlt)
        obtain ⟨x, hxx⟩ : ∃ x, x = m.getD t pd0 := ⟨_, rfl⟩
        have HXE := Lib.hid hxx
        have hxr : 0 ≤ x.party ∧ x.party < 24 := by rw [hxx]; exact ⟨(HG.out t (by rw [← HK.out]; exact hlt)).1, (HG.out t (by rw [← HK.out]; exact hlt)).2.1⟩
        rw [← hxx] at hx3
        have HX3 := Lib.hid hx3
        have hxl : x.dg.length = 32 := hx3.1
        clear hxx hx3
        go_upto_region 14 with (first
          | (refine load_pd revealType revealInfo rfl _ rfl b3 (off3 + t * 33) x HX3.out rfl ?_)
          | (refine store_pd revealInfo rfl _ _ rfl (Blk.new' wr 69 _ rfl) x hxl rfl rfl rfl ?_; intro w5 bx5 hO hz
             have hk5 : Below wr.heap.size wr w5 := ((Below.refl _ wr).alloc (Nat.le_refl _) _).trans (hO.toBelow (by simp) (Nat.le_refl _)); clear hO hz))
        obtain ⟨G5, hG5⟩ : ∃ G, G = wr.heap.size := ⟨_, rfl⟩
        rw [← hG5] at bx5 ⊢
        have HX5 := Lib.hid bx5
        have HBR5 := Lib.hid (HBR.out.trans (hk5.mono HBR.out.size))
        have HBW5 := Lib.hid (HBW.out.trans (hk5.mono HBW.out.size))
        clear bx5 hG5 hk5 HBR HBW HX3
        go_wp2_with fail
        go_loopw [68] (fun jj wr' => ∃ u : Nat, u ≤ q ∧ jj = .int .i64 u ∧ (∀ y ∈ s.take u, ∀ p ∈ l, ¬ Hit x y p) ∧ Below w5.heap.size w5 wr') (fun jj _ => q - (intOf jj).toNat)
        case atStart => exact ⟨0, by omega, rfl, fun y hy => by simp at hy, Below.refl _ _⟩
        case round =>
          obtain ⟨u, hu, rfl, hall, hBr⟩ := hrel
          have hBw := HBW5.out.trans (hBr.mono HBW5.out.size)
          have HALL2 := Lib.hid hall
          have HBR := Lib.hid hBr
          have HBW := Lib.hid hBw
          clear hall hBr hBw
          by_cases hlu : u < q
          · obtain ⟨b4, off4, rfl, hbl4, hy4⟩ := (HC.out.below HBW.out).at_ (k := u) (by rw [← HQ.out]; exact hlu)
            obtain ⟨y, hyy⟩ : ∃ y, y = s.getD u pd0 := ⟨_, rfl⟩
            have HYE := Lib.hid hyy
            have hyr : 0 ≤ y.party ∧ y.party < 24 := by rw [hyy]; exact ⟨(HH.out u (by rw [← HQ.out]; exact hlu)).1, (HH.out u (by rw [← HQ.out]; exact hlu)).2.1⟩
            rw [← hyy] at hy4
            have HY4 := Lib.hid hy4
            have hyl : y.dg.length = 32 := hy4.1
            clear hyy hy4
            go_upto_region 17 with (first
              | (refine load_pd revealType revealInfo rfl _ rfl b4 (off4 + u * 33) y HY4.out rfl ?_)
              | (refine store_pd revealInfo rfl _ _ rfl (Blk.new' wr 69 _ rfl) y hyl rfl rfl rfl ?_; intro w6 by6 hO hz
                 have hk6 : Below wr.heap.size wr w6 := ((Below.refl _ wr).alloc (Nat.le_refl _) _).trans (hO.toBelow (by simp) (Nat.le_refl _)); clear hO hz))
            obtain ⟨G6, hG6⟩ : ∃ G, G = wr.heap.size := ⟨_, rfl⟩
            rw [← hG6] at by6 ⊢
            have hk56 := HBR.out.trans (hk6.mono HBR.out.size)
            have HX6 := Lib.hid (HX5.out.below hk56 HX5.out.lt)
            have HY6 := Lib.hid by6
            have HBR6 := Lib.hid hk56
            have HBW6 := Lib.hid (HBW.out.trans (hk6.mono HBW.out.size))
            clear by6 hG6 hk6 hk56 HBR HBW HY4
            obtain ⟨xn, hxn⟩ : ∃ xn : Nat, x.party = xn := ⟨x.party.toNat, by omega⟩
            obtain ⟨yn, hyn⟩ : ∃ yn : Nat, y.party = yn := ⟨y.party.toNat, by omega⟩
            have c5 : w6.cell? ⟨G5, 0, none⟩ = some (.int .i64 xn) := by rw [← hxn]; exact pd_party HX6.out
            have c6 : w6.cell? ⟨G6, 0, none⟩ = some (.int .i64 yn) := by rw [← hyn]; exact pd_party HY6.out
            have HRX6 := Lib.hid (pd_dg HX6.out hxl)
            have HRY6 := Lib.hid (pd_dg HY6.out hyl)
            have HXN := Lib.hid hxn
            have HYN := Lib.hid hyn
            have hxn24 : xn < 24 := by omega
            clear hxn hyn
            by_cases t0 : xn = yn
            rotate_left
            · have g0 : ((xn : Int) != (yn : Int)) = true := bne_iff_ne.2 (by omega)
              have HNH := Lib.hid (show ∀ p ∈ l, ¬ Hit x y p from fun p _ h => t0 (by have := h.1; rw [HXN.out, HYN.out] at this; omega))
              clear t0
              go_wp2_with (refine wpList_skip (by rfl) ?_)
              go_roundw
              case rel => exact ⟨u + 1, by omega, by go_num, all_step (by rw [← HQ.out]; exact hlu) HALL2.out (by rw [← HYE.out]; exact HNH.out), HBR6.out⟩
              case measure => simp [intOf]; omega
            subst t0
            have g0 : ((xn : Int) != (xn : Int)) = false := by simp
            by_cases t9 : x.dg = y.dg
            · have HE := Lib.hid (decide_eq_true t9)
              have HNH := Lib.hid (show ∀ p ∈ l, ¬ Hit x y p from fun p _ h => h.2.1 t9)
              clear t9
              go_wp2_with (first
                | (refine load_dig_g (by rfl) _ rfl G5 1 rfl x.dg hxl HRX6.out ?_)
                | (refine load_dig_g (by rfl) _ rfl G6 1 rfl y.dg hyl HRY6.out ?_)
                | (refine b_eql_g (by rfl) _ _ _ rfl x.dg y.dg hxl hyl rfl rfl true HE.out ?_))
              go_roundw
              case rel => exact ⟨u + 1, by omega, by go_num, all_step (by rw [← HQ.out]; exact hlu) HALL2.out (by rw [← HYE.out]; exact HNH.out), HBR6.out⟩
              case measure => simp [intOf]; omega
            have HE := Lib.hid (decide_eq_false t9)
            obtain ⟨TX, hTX⟩ : ∃ T, T = commitText xn x.dg := ⟨_, rfl⟩
            obtain ⟨TY, hTY⟩ : ∃ T, T = commitText xn y.dg := ⟨_, rfl⟩
            have HNS := Lib.hid (show ¬ TX = TY by
              rw [hTX, hTY]
              intro h
              exact t9 (commitText_inj hxl hyl h))
            have HTX := Lib.hid (fun W => text31_any x hxl xn HXN.out hxn24 W)
            have HTY := Lib.hid (fun W => text31_any y hyl xn HYN.out hxn24 W)
            have HTXE := Lib.hid hTX
            have HTYE := Lib.hid hTY
            rw [← hTX] at HTX
            rw [← hTY] at HTY
            have HTXl := Lib.hid (show (ByteArray.mk TX.toArray).size ≤ 140737488355328 by show TX.length ≤ _; have := commitText_len xn x.dg (by omega) hxl; rw [hTX]; omega)
            have HTYl := Lib.hid (show (ByteArray.mk TY.toArray).size ≤ 140737488355328 by show TY.length ≤ _; have := commitText_len xn y.dg (by omega) hyl; rw [hTY]; omega)
            obtain ⟨CX, hCX⟩ : ∃ C, C = commitOf xn x.dg := ⟨_, rfl⟩
            obtain ⟨CY, hCY⟩ : ∃ C, C = commitOf xn y.dg := ⟨_, rfl⟩
            have hCXl : CX.length = 32 := by rw [hCX]; exact commitOf_length _ _
            have hCYl : CY.length = 32 := by rw [hCY]; exact commitOf_length _ _
            have HCXE := Lib.hid (show CX = commitOf x.party.toNat x.dg by rw [hCX, HXN.out, Int.toNat_natCast])
            have HCYE := Lib.hid (show CY = commitOf y.party.toNat y.dg by rw [hCY, HYN.out, Int.toNat_natCast])
            have HCXF := Lib.hid hCX
            have HCYF := Lib.hid hCY
            clear t9 hTX hTY hCX hCY
            go_upto_region 18 with (first
              | (refine load_dig_g (by rfl) _ rfl G5 1 rfl x.dg hxl HRX6.out ?_)
              | (refine load_dig_g (by rfl) _ rfl G6 1 rfl y.dg hyl HRY6.out ?_)
              | (refine b_eql_g (by rfl) _ _ _ rfl x.dg y.dg hxl hyl rfl rfl false HE.out ?_))
            clear c5 c6 HRX6 HRY6 HE g0
            go_wp2_with fail
            go_loopw [86] (fun kk wr' => ∃ vv : Nat, vv ≤ n ∧ kk = .int .i64 vv ∧ (∀ p ∈ l.take vv, ¬ Hit x y p) ∧ Below w6.heap.size w6 wr') (fun kk _ => n - (intOf kk).toNat)
            case atStart => exact ⟨0, by omega, rfl, fun p hp => by simp at hp, Below.refl _ _⟩
            case round =>
              obtain ⟨vv, hv, rfl, hall, hBr⟩ := hrel
              have hBw := HBW6.out.trans (hBr.mono HBW6.out.size)
              have HALL3 := Lib.hid hall
              have HBR := Lib.hid hBr
              have HBW := Lib.hid hBw
              clear hall hBr hBw
              by_cases hlv : vv < n
              · obtain ⟨bb, off, rfl, hbl, hp5⟩ := (HA.out.below HBW.out).at_ (k := vv) (by rw [← HN.out]; exact hlv)
                obtain ⟨p, hpp⟩ : ∃ p, p = l.getD vv pd0 := ⟨_, rfl⟩
                have HPE := Lib.hid hpp
                rw [← hpp] at hp5
                have HP5 := Lib.hid hp5
                have hpl : p.dg.length = 32 := hp5.1
                clear hpp hp5
                go_upto_region 21 with (first
                  | (refine load_pd pledgeType pledgeInfo rfl _ rfl bb (off + vv * 33) p HP5.out rfl ?_)
                  | (refine store_pd pledgeInfo rfl _ _ rfl (Blk.new' wr 61 _ rfl) p hpl rfl rfl rfl ?_; intro w7 bp7 hO hz
                     have hk7 : Below wr.heap.size wr w7 := ((Below.refl _ wr).alloc (Nat.le_refl _) _).trans (hO.toBelow (by simp) (Nat.le_refl _)); clear hO hz))
                obtain ⟨G7, hG7⟩ : ∃ G, G = wr.heap.size := ⟨_, rfl⟩
                rw [← hG7] at bp7 ⊢
                have hk67 := HBR.out.trans (hk7.mono HBR.out.size)
                have HB7 := Lib.hid hk67
                have HBW7 := Lib.hid (HBW.out.trans (hk7.mono HBW.out.size))
                obtain ⟨pp, hpq⟩ : ∃ pp, pp = p.party := ⟨_, rfl⟩
                obtain ⟨PD, hPD⟩ : ∃ D, D = p.dg := ⟨_, rfl⟩
                have hPl : PD.length = 32 := by rw [hPD]; exact hpl
                have hx7 := HX6.out.below hk67 HX6.out.lt
                have hy7 := HY6.out.below hk67 HY6.out.lt
                have KP := Lib.hid (show w7.cell? ⟨G7, 0, none⟩ = some (.int .i64 pp) by rw [hpq]; exact pd_party bp7)
                have KX := Lib.hid (show w7.cell? ⟨G5, 0, none⟩ = some (.int .i64 xn) by rw [← HXN.out]; exact pd_party hx7)
                have HRX := Lib.hid (rangeAt_of_blk_toArray hx7)
                have HRY := Lib.hid (rangeAt_of_blk_toArray hy7)
                have HRP := Lib.hid (show w7.rangeAt G7 1 (dig PD).toList by rw [hPD]; exact pd_dg bp7 hpl)
                have HGP := Lib.hid bp7.lt
                have HGX := Lib.hid hx7.lt
                have HGY := Lib.hid hy7.lt
                have HPP := Lib.hid hpq
                have HPD := Lib.hid hPD
                have HCX := Lib.hid (fun V g cc h hr => by have := tag_text xn x.dg TX HTXE.out hxn24 hxl w7 w HL HBW7 V g cc h hr; rw [← HCXF.out] at this; exact this)
                have HCY := Lib.hid (fun V g cc h hr => by have := tag_text xn y.dg TY HTYE.out hxn24 hyl w7 w HL HBW7 V g cc h hr; rw [← HCYF.out] at this; exact this)
                clear bp7 hG7 hk7 hk67 hx7 hy7 hpq hPD HBR HBW HP5
                by_cases t1 : pp = (xn : Int)
                · have g1 : (pp == (xn : Int)) = true := beq_iff_eq.2 t1
                  by_cases t2 : CX = PD
                  · have HB2 := Lib.hid (decide_eq_true t2)
                    by_cases t3 : CY = PD
                    · have HB3 := Lib.hid (decide_eq_true t3)
                      clear t1 t2 t3
                      go_wp2_with fail
                      refine wp_region_held_drew (S := fun W' => Below w7.heap.size w7 W') (by kernel_rfl) (Below.refl _ _).drew (fun hS0 => ?_)
                      refine wpAnyH_take (i := 0) (v := .pointer (some ⟨G7, 0, none⟩)) rfl (by kernel_rfl) (by kernel_rfl) (by kernel_rfl) (fun _ _ _ h => h) (Or.inl ⟨by rfl, fun W' hS' => by go_simp⟩) hS0 ?_
                      simp only [Act.put, List.getElem_toArray, List.getElem_cons_zero, List.getElem_cons_succ, List.setIfInBounds_toArray, List.set_cons_zero, List.set_cons_succ]
                      refine wpAnyH_take (i := 1) (v := .int .i64 pp) rfl (by kernel_rfl) (by kernel_rfl) (by kernel_rfl) (fun _ _ _ h => h) (Or.inl ⟨by rfl, fun W' hS' => by have := (hS'.cell (p := ⟨G7, 0, none⟩) HGP.out).trans KP.out; go_simp⟩) hS0 ?_
                      simp only [Act.put, List.getElem_toArray, List.getElem_cons_zero, List.getElem_cons_succ, List.setIfInBounds_toArray, List.set_cons_zero, List.set_cons_succ]
                      refine wpAnyH_take (i := 2) (v := .pointer (some ⟨G5, 0, none⟩)) rfl (by kernel_rfl) (by kernel_rfl) (by kernel_rfl) (fun _ _ _ h => h) (Or.inl ⟨by rfl, fun W' hS' => by go_simp⟩) hS0 ?_
                      simp only [Act.put, List.getElem_toArray, List.getElem_cons_zero, List.getElem_cons_succ, List.setIfInBounds_toArray, List.set_cons_zero, List.set_cons_succ]
                      refine wpAnyH_take (i := 3) (v := .int .i64 (xn : Int)) rfl (by kernel_rfl) (by kernel_rfl) (by kernel_rfl) (fun _ _ _ h => h) (Or.inl ⟨by rfl, fun W' hS' => by have := (hS'.cell (p := ⟨G5, 0, none⟩) HGX.out).trans KX.out; go_simp⟩) hS0 ?_
                      simp only [Act.put, List.getElem_toArray, List.getElem_cons_zero, List.getElem_cons_succ, List.setIfInBounds_toArray, List.set_cons_zero, List.set_cons_succ]
                      refine wpAnyH_take (i := 4) (v := .bool true) rfl (by kernel_rfl) (by kernel_rfl) (by kernel_rfl) (fun _ _ _ h => h) (Or.inl ⟨by rfl, fun W' hS' => by go_simp⟩) hS0 ?_
                      simp only [Act.put, List.getElem_toArray, List.getElem_cons_zero, List.getElem_cons_succ, List.setIfInBounds_toArray, List.set_cons_zero, List.set_cons_succ]
                      refine wpAnyH_take (i := 5) (v := .bool true) rfl (by kernel_rfl) (by kernel_rfl) (by kernel_rfl) (fun _ _ _ h => h) (Or.inl ⟨by rfl, fun W' hS' => by go_simp⟩) hS0 ?_
                      simp only [Act.put, List.getElem_toArray, List.getElem_cons_zero, List.getElem_cons_succ, List.setIfInBounds_toArray, List.set_cons_zero, List.set_cons_succ]
                      refine wpAnyH_take (i := 6) (v := .agg x.cells.toArray) rfl (by kernel_rfl) (by kernel_rfl) (by kernel_rfl) (fun _ _ _ h => h) (yieldsIf_load_mid (by rfl) 69 _ rfl _ _ rfl x.cells _ (fun W' hS' => rangeAt_below HRX.out hS' HGX.out) Tryd.underlying69 rfl (by rw [x.cells_len hxl]; exact revealInfo)) hS0 ?_
                      simp only [Act.put, List.getElem_toArray, List.getElem_cons_zero, List.getElem_cons_succ, List.setIfInBounds_toArray, List.set_cons_zero, List.set_cons_succ]
                      refine wpAnyH_take (i := 8) (v := .agg y.cells.toArray) rfl (by kernel_rfl) (by kernel_rfl) (by kernel_rfl) (fun _ _ _ h => h) (yieldsIf_load_mid (by rfl) 69 _ rfl _ _ rfl y.cells _ (fun W' hS' => rangeAt_below HRY.out hS' HGY.out) Tryd.underlying69 rfl (by rw [y.cells_len hyl]; exact revealInfo)) hS0 ?_
                      simp only [Act.put, List.getElem_toArray, List.getElem_cons_zero, List.getElem_cons_succ, List.setIfInBounds_toArray, List.set_cons_zero, List.set_cons_succ]
                      refine wpAnyH_ready (rs := [7]) (by kernel_rfl) (by simp) ?_
                      refine AllReadyH.cons rfl (fun Kq hKq => ?_) AllReadyH.nil
                      simp only [List.getElem_toArray, List.getElem_cons_zero, List.getElem_cons_succ]
                      go_simp
                      refine (HTX.out _).mono ?_
                      rintro e V1 ⟨rfl, hb1⟩
                      have hS1 := hS0.trans (hb1.mono hS0.size)
                      refine hKq.out _ _ hS1 (fun _ => ?_)
                      clear hKq Kq hb1 hS0
                      refine wpAnyH_ready (rs := [9]) (by kernel_rfl) (by simp) ?_
                      refine AllReadyH.cons rfl (fun Kq hKq => ?_) AllReadyH.nil
                      simp only [List.getElem_toArray, List.getElem_cons_zero, List.getElem_cons_succ]
                      go_simp
                      refine (HTY.out _).mono ?_
                      rintro e V2 ⟨rfl, hb2⟩
                      have hS2 := hS1.trans (hb2.mono hS1.size)
                      refine hKq.out _ _ hS2 (fun _ => ?_)
                      clear hKq Kq hb2 hS1
                      refine wpAnyH_take (i := 10) (v := .bool true) rfl (by kernel_rfl) (by kernel_rfl) (by kernel_rfl) (fun _ _ _ h => h) (Or.inl ⟨by rfl, fun W' hS' => by have := HNS.out; go_simp; first | done | exact HNS.out⟩) hS2 ?_
                      simp only [Act.put, List.getElem_toArray, List.getElem_cons_zero, List.getElem_cons_succ, List.setIfInBounds_toArray, List.set_cons_zero, List.set_cons_succ]
                      refine wpAnyH_take (i := 11) (v := .bool true) rfl (by kernel_rfl) (by kernel_rfl) (by kernel_rfl) (fun _ _ _ h => h) (Or.inl ⟨by rfl, fun W' hS' => by go_simp⟩) hS2 ?_
                      simp only [Act.put, List.getElem_toArray, List.getElem_cons_zero, List.getElem_cons_succ, List.setIfInBounds_toArray, List.set_cons_zero, List.set_cons_succ]
                      refine wpAnyH_take (i := 12) (v := .bool true) rfl (by kernel_rfl) (by kernel_rfl) (by kernel_rfl) (fun _ _ _ h => h) (Or.inl ⟨by rfl, fun W' hS' => by go_simp⟩) hS2 ?_
                      simp only [Act.put, List.getElem_toArray, List.getElem_cons_zero, List.getElem_cons_succ, List.setIfInBounds_toArray, List.set_cons_zero, List.set_cons_succ]
                      refine wpAnyH_take (i := 13) (v := .agg x.cells.toArray) rfl (by kernel_rfl) (by kernel_rfl) (by kernel_rfl) (fun _ _ _ h => h) (yieldsIf_load_mid (by rfl) 69 _ rfl _ _ rfl x.cells _ (fun W' hS' => rangeAt_below HRX.out hS' HGX.out) Tryd.underlying69 rfl (by rw [x.cells_len hxl]; exact revealInfo)) hS2 ?_
                      simp only [Act.put, List.getElem_toArray, List.getElem_cons_zero, List.getElem_cons_succ, List.setIfInBounds_toArray, List.set_cons_zero, List.set_cons_succ]
                      refine wpAnyH_take (i := 17) (v := .pointer (some ⟨G7, 1, none⟩)) rfl (by kernel_rfl) (by kernel_rfl) (by kernel_rfl) (fun _ _ _ h => h) (Or.inl ⟨by rfl, fun W' hS' => by go_simp⟩) hS2 ?_
                      simp only [Act.put, List.getElem_toArray, List.getElem_cons_zero, List.getElem_cons_succ, List.setIfInBounds_toArray, List.set_cons_zero, List.set_cons_succ]
                      refine wpAnyH_take (i := 18) (v := .agg (dig PD)) rfl (by kernel_rfl) (by kernel_rfl) (by kernel_rfl) (fun _ _ _ h => h) (yields_mid_dig (by rfl) _ rfl _ _ rfl PD hPl (fun W' hS' => rangeAt_below HRP.out hS' HGP.out)) hS2 ?_
                      simp only [Act.put, List.getElem_toArray, List.getElem_cons_zero, List.getElem_cons_succ, List.setIfInBounds_toArray, List.set_cons_zero, List.set_cons_succ]
                      refine wpAnyH_ready (rs := [14]) (by kernel_rfl) (by simp) ?_
                      refine AllReadyH.cons rfl (fun Kq hKq => ?_) AllReadyH.nil
                      simp only [List.getElem_toArray, List.getElem_cons_zero, List.getElem_cons_succ]
                      go_simp
                      refine (HTX.out _).mono ?_
                      rintro e V3 ⟨rfl, hb3⟩
                      have hS3 := hS2.trans (hb3.mono hS2.size)
                      refine hKq.out _ _ hS3 (fun _ => ?_)
                      clear hKq Kq hb3 hS2
                      refine wpAnyH_ready (rs := [15]) (by kernel_rfl) (by simp) ?_
                      refine AllReadyH.cons rfl (fun Kq hKq => ?_) AllReadyH.nil
                      simp only [List.getElem_toArray, List.getElem_cons_zero, List.getElem_cons_succ]
                      rw [if_pos (by rfl)]
                      refine wp_conv_str _ rfl _ ⟨TX.toArray⟩ HTXl.out rfl ?_
                      intro cc4 V4 hcc4 hcd4 hrd4 hb4 hzz4
                      have hS4 := hS3.trans (hb4.mono hS3.size)
                      refine hKq.out _ _ hS4 (fun _ => ?_)
                      clear hKq Kq hb4 hS3
                      refine wpAnyH_ready (rs := [16]) (by kernel_rfl) (by simp) ?_
                      refine AllReadyH.cons rfl (fun Kq hKq => ?_) AllReadyH.nil
                      simp only [List.getElem_toArray, List.getElem_cons_zero, List.getElem_cons_succ]
                      go_simp
                      refine (HCX.out _ _ _ hS4 hrd4).mono ?_
                      rintro e V5 ⟨rfl, hb5⟩
                      have hS5 := hS4.trans (hb5.mono hS4.size)
                      refine hKq.out _ _ hS5 (fun _ => ?_)
                      clear hKq Kq hb5 hS4
                      refine wpAnyH_take (i := 19) (v := .bool true) rfl (by kernel_rfl) (by kernel_rfl) (by kernel_rfl) (fun _ _ _ h => h) (yields_eql_dig (by rfl) _ _ _ rfl CX PD hCXl hPl rfl rfl _ HB2.out) hS5 ?_
                      simp only [Act.put, List.getElem_toArray, List.getElem_cons_zero, List.getElem_cons_succ, List.setIfInBounds_toArray, List.set_cons_zero, List.set_cons_succ]
                      refine wpAnyH_take (i := 20) (v := .bool true) rfl (by kernel_rfl) (by kernel_rfl) (by kernel_rfl) (fun _ _ _ h => h) (Or.inl ⟨by rfl, fun W' hS' => by go_simp⟩) hS5 ?_
                      simp only [Act.put, List.getElem_toArray, List.getElem_cons_zero, List.getElem_cons_succ, List.setIfInBounds_toArray, List.set_cons_zero, List.set_cons_succ]
                      refine wpAnyH_take (i := 21) (v := .bool true) rfl (by kernel_rfl) (by kernel_rfl) (by kernel_rfl) (fun _ _ _ h => h) (Or.inl ⟨by rfl, fun W' hS' => by go_simp⟩) hS5 ?_
                      simp only [Act.put, List.getElem_toArray, List.getElem_cons_zero, List.getElem_cons_succ, List.setIfInBounds_toArray, List.set_cons_zero, List.set_cons_succ]
                      refine wpAnyH_take (i := 22) (v := .agg y.cells.toArray) rfl (by kernel_rfl) (by kernel_rfl) (by kernel_rfl) (fun _ _ _ h => h) (yieldsIf_load_mid (by rfl) 69 _ rfl _ _ rfl y.cells _ (fun W' hS' => rangeAt_below HRY.out hS' HGY.out) Tryd.underlying69 rfl (by rw [y.cells_len hyl]; exact revealInfo)) hS5 ?_
                      simp only [Act.put, List.getElem_toArray, List.getElem_cons_zero, List.getElem_cons_succ, List.setIfInBounds_toArray, List.set_cons_zero, List.set_cons_succ]
                      refine wpAnyH_take (i := 26) (v := .pointer (some ⟨G7, 1, none⟩)) rfl (by kernel_rfl) (by kernel_rfl) (by kernel_rfl) (fun _ _ _ h => h) (Or.inl ⟨by rfl, fun W' hS' => by go_simp⟩) hS5 ?_
                      simp only [Act.put, List.getElem_toArray, List.getElem_cons_zero, List.getElem_cons_succ, List.setIfInBounds_toArray, List.set_cons_zero, List.set_cons_succ]
                      refine wpAnyH_take (i := 27) (v := .agg (dig PD)) rfl (by kernel_rfl) (by kernel_rfl) (by kernel_rfl) (fun _ _ _ h => h) (yields_mid_dig (by rfl) _ rfl _ _ rfl PD hPl (fun W' hS' => rangeAt_below HRP.out hS' HGP.out)) hS5 ?_
                      simp only [Act.put, List.getElem_toArray, List.getElem_cons_zero, List.getElem_cons_succ, List.setIfInBounds_toArray, List.set_cons_zero, List.set_cons_succ]
                      refine wpAnyH_ready (rs := [23]) (by kernel_rfl) (by simp) ?_
                      refine AllReadyH.cons rfl (fun Kq hKq => ?_) AllReadyH.nil
                      simp only [List.getElem_toArray, List.getElem_cons_zero, List.getElem_cons_succ]
                      go_simp
                      refine (HTY.out _).mono ?_
                      rintro e V6 ⟨rfl, hb6⟩
                      have hS6 := hS5.trans (hb6.mono hS5.size)
                      refine hKq.out _ _ hS6 (fun _ => ?_)
                      clear hKq Kq hb6 hS5
                      refine wpAnyH_ready (rs := [24]) (by kernel_rfl) (by simp) ?_
                      refine AllReadyH.cons rfl (fun Kq hKq => ?_) AllReadyH.nil
                      simp only [List.getElem_toArray, List.getElem_cons_zero, List.getElem_cons_succ]
                      rw [if_pos (by rfl)]
                      refine wp_conv_str _ rfl _ ⟨TY.toArray⟩ HTYl.out rfl ?_
                      intro cc7 V7 hcc7 hcd7 hrd7 hb7 hzz7
                      have hS7 := hS6.trans (hb7.mono hS6.size)
                      refine hKq.out _ _ hS7 (fun _ => ?_)
                      clear hKq Kq hb7 hS6
                      refine wpAnyH_ready (rs := [25]) (by kernel_rfl) (by simp) ?_
                      refine AllReadyH.cons rfl (fun Kq hKq => ?_) AllReadyH.nil
                      simp only [List.getElem_toArray, List.getElem_cons_zero, List.getElem_cons_succ]
                      go_simp
                      refine (HCY.out _ _ _ hS7 hrd7).mono ?_
                      rintro e V8 ⟨rfl, hb8⟩
                      have hS8 := hS7.trans (hb8.mono hS7.size)
                      refine hKq.out _ _ hS8 (fun _ => ?_)
                      clear hKq Kq hb8 hS7
                      refine wpAnyH_take (i := 28) (v := .bool true) rfl (by kernel_rfl) (by kernel_rfl) (by kernel_rfl) (fun _ _ _ h => h) (yields_eql_dig (by rfl) _ _ _ rfl CY PD hCYl hPl rfl rfl _ HB3.out) hS8 ?_
                      simp only [Act.put, List.getElem_toArray, List.getElem_cons_zero, List.getElem_cons_succ, List.setIfInBounds_toArray, List.set_cons_zero, List.set_cons_succ]
                      refine wpAnyH_take (i := 29) (v := .bool true) rfl (by kernel_rfl) (by kernel_rfl) (by kernel_rfl) (fun _ _ _ h => h) (Or.inl ⟨by rfl, fun W' hS' => by go_simp⟩) hS8 ?_
                      simp only [Act.put, List.getElem_toArray, List.getElem_cons_zero, List.getElem_cons_succ, List.setIfInBounds_toArray, List.set_cons_zero, List.set_cons_succ]
                      refine wpAnyH_done (by kernel_rfl) ?_ _
                      have HBL := Lib.hid (HBW7.out.trans (hS8.mono HBW7.out.size))
                      clear hS8
                      go_wp2_with fail
                      go_ret
                      exact ⟨rfl, HBL.out⟩
                    · have HB3 := Lib.hid (decide_eq_false t3)
                      have HNH := Lib.hid (show ¬ Hit x y p from fun h => t3 (by rw [HCYE.out, HPD.out]; exact h.2.2.2.2))
                      clear t1 t2 t3
                      go_wp2_with fail
                      refine wp_region_held_drew (S := fun W' => Below w7.heap.size w7 W') (by kernel_rfl) (Below.refl _ _).drew (fun hS0 => ?_)
                      refine wpAnyH_take (i := 0) (v := .pointer (some ⟨G7, 0, none⟩)) rfl (by kernel_rfl) (by kernel_rfl) (by kernel_rfl) (fun _ _ _ h => h) (Or.inl ⟨by rfl, fun W' hS' => by go_simp⟩) hS0 ?_
                      simp only [Act.put, List.getElem_toArray, List.getElem_cons_zero, List.getElem_cons_succ, List.setIfInBounds_toArray, List.set_cons_zero, List.set_cons_succ]
                      refine wpAnyH_take (i := 1) (v := .int .i64 pp) rfl (by kernel_rfl) (by kernel_rfl) (by kernel_rfl) (fun _ _ _ h => h) (Or.inl ⟨by rfl, fun W' hS' => by have := (hS'.cell (p := ⟨G7, 0, none⟩) HGP.out).trans KP.out; go_simp⟩) hS0 ?_
                      simp only [Act.put, List.getElem_toArray, List.getElem_cons_zero, List.getElem_cons_succ, List.setIfInBounds_toArray, List.set_cons_zero, List.set_cons_succ]
                      refine wpAnyH_take (i := 2) (v := .pointer (some ⟨G5, 0, none⟩)) rfl (by kernel_rfl) (by kernel_rfl) (by kernel_rfl) (fun _ _ _ h => h) (Or.inl ⟨by rfl, fun W' hS' => by go_simp⟩) hS0 ?_
                      simp only [Act.put, List.getElem_toArray, List.getElem_cons_zero, List.getElem_cons_succ, List.setIfInBounds_toArray, List.set_cons_zero, List.set_cons_succ]
                      refine wpAnyH_take (i := 3) (v := .int .i64 (xn : Int)) rfl (by kernel_rfl) (by kernel_rfl) (by kernel_rfl) (fun _ _ _ h => h) (Or.inl ⟨by rfl, fun W' hS' => by have := (hS'.cell (p := ⟨G5, 0, none⟩) HGX.out).trans KX.out; go_simp⟩) hS0 ?_
                      simp only [Act.put, List.getElem_toArray, List.getElem_cons_zero, List.getElem_cons_succ, List.setIfInBounds_toArray, List.set_cons_zero, List.set_cons_succ]
                      refine wpAnyH_take (i := 4) (v := .bool true) rfl (by kernel_rfl) (by kernel_rfl) (by kernel_rfl) (fun _ _ _ h => h) (Or.inl ⟨by rfl, fun W' hS' => by go_simp⟩) hS0 ?_
                      simp only [Act.put, List.getElem_toArray, List.getElem_cons_zero, List.getElem_cons_succ, List.setIfInBounds_toArray, List.set_cons_zero, List.set_cons_succ]
                      refine wpAnyH_take (i := 5) (v := .bool true) rfl (by kernel_rfl) (by kernel_rfl) (by kernel_rfl) (fun _ _ _ h => h) (Or.inl ⟨by rfl, fun W' hS' => by go_simp⟩) hS0 ?_
                      simp only [Act.put, List.getElem_toArray, List.getElem_cons_zero, List.getElem_cons_succ, List.setIfInBounds_toArray, List.set_cons_zero, List.set_cons_succ]
                      refine wpAnyH_take (i := 6) (v := .agg x.cells.toArray) rfl (by kernel_rfl) (by kernel_rfl) (by kernel_rfl) (fun _ _ _ h => h) (yieldsIf_load_mid (by rfl) 69 _ rfl _ _ rfl x.cells _ (fun W' hS' => rangeAt_below HRX.out hS' HGX.out) Tryd.underlying69 rfl (by rw [x.cells_len hxl]; exact revealInfo)) hS0 ?_
                      simp only [Act.put, List.getElem_toArray, List.getElem_cons_zero, List.getElem_cons_succ, List.setIfInBounds_toArray, List.set_cons_zero, List.set_cons_succ]
                      refine wpAnyH_take (i := 8) (v := .agg y.cells.toArray) rfl (by kernel_rfl) (by kernel_rfl) (by kernel_rfl) (fun _ _ _ h => h) (yieldsIf_load_mid (by rfl) 69 _ rfl _ _ rfl y.cells _ (fun W' hS' => rangeAt_below HRY.out hS' HGY.out) Tryd.underlying69 rfl (by rw [y.cells_len hyl]; exact revealInfo)) hS0 ?_
                      simp only [Act.put, List.getElem_toArray, List.getElem_cons_zero, List.getElem_cons_succ, List.setIfInBounds_toArray, List.set_cons_zero, List.set_cons_succ]
                      refine wpAnyH_ready (rs := [7]) (by kernel_rfl) (by simp) ?_
                      refine AllReadyH.cons rfl (fun Kq hKq => ?_) AllReadyH.nil
                      simp only [List.getElem_toArray, List.getElem_cons_zero, List.getElem_cons_succ]
                      go_simp
                      refine (HTX.out _).mono ?_
                      rintro e V1 ⟨rfl, hb1⟩
                      have hS1 := hS0.trans (hb1.mono hS0.size)
                      refine hKq.out _ _ hS1 (fun _ => ?_)
                      clear hKq Kq hb1 hS0
                      refine wpAnyH_ready (rs := [9]) (by kernel_rfl) (by simp) ?_
                      refine AllReadyH.cons rfl (fun Kq hKq => ?_) AllReadyH.nil
                      simp only [List.getElem_toArray, List.getElem_cons_zero, List.getElem_cons_succ]
                      go_simp
                      refine (HTY.out _).mono ?_
                      rintro e V2 ⟨rfl, hb2⟩
                      have hS2 := hS1.trans (hb2.mono hS1.size)
                      refine hKq.out _ _ hS2 (fun _ => ?_)
                      clear hKq Kq hb2 hS1
                      refine wpAnyH_take (i := 10) (v := .bool true) rfl (by kernel_rfl) (by kernel_rfl) (by kernel_rfl) (fun _ _ _ h => h) (Or.inl ⟨by rfl, fun W' hS' => by have := HNS.out; go_simp; first | done | exact HNS.out⟩) hS2 ?_
                      simp only [Act.put, List.getElem_toArray, List.getElem_cons_zero, List.getElem_cons_succ, List.setIfInBounds_toArray, List.set_cons_zero, List.set_cons_succ]
                      refine wpAnyH_take (i := 11) (v := .bool true) rfl (by kernel_rfl) (by kernel_rfl) (by kernel_rfl) (fun _ _ _ h => h) (Or.inl ⟨by rfl, fun W' hS' => by go_simp⟩) hS2 ?_
                      simp only [Act.put, List.getElem_toArray, List.getElem_cons_zero, List.getElem_cons_succ, List.setIfInBounds_toArray, List.set_cons_zero, List.set_cons_succ]
                      refine wpAnyH_take (i := 12) (v := .bool true) rfl (by kernel_rfl) (by kernel_rfl) (by kernel_rfl) (fun _ _ _ h => h) (Or.inl ⟨by rfl, fun W' hS' => by go_simp⟩) hS2 ?_
                      simp only [Act.put, List.getElem_toArray, List.getElem_cons_zero, List.getElem_cons_succ, List.setIfInBounds_toArray, List.set_cons_zero, List.set_cons_succ]
                      refine wpAnyH_take (i := 13) (v := .agg x.cells.toArray) rfl (by kernel_rfl) (by kernel_rfl) (by kernel_rfl) (fun _ _ _ h => h) (yieldsIf_load_mid (by rfl) 69 _ rfl _ _ rfl x.cells _ (fun W' hS' => rangeAt_below HRX.out hS' HGX.out) Tryd.underlying69 rfl (by rw [x.cells_len hxl]; exact revealInfo)) hS2 ?_
                      simp only [Act.put, List.getElem_toArray, List.getElem_cons_zero, List.getElem_cons_succ, List.setIfInBounds_toArray, List.set_cons_zero, List.set_cons_succ]
                      refine wpAnyH_take (i := 17) (v := .pointer (some ⟨G7, 1, none⟩)) rfl (by kernel_rfl) (by kernel_rfl) (by kernel_rfl) (fun _ _ _ h => h) (Or.inl ⟨by rfl, fun W' hS' => by go_simp⟩) hS2 ?_
                      simp only [Act.put, List.getElem_toArray, List.getElem_cons_zero, List.getElem_cons_succ, List.setIfInBounds_toArray, List.set_cons_zero, List.set_cons_succ]
                      refine wpAnyH_take (i := 18) (v := .agg (dig PD)) rfl (by kernel_rfl) (by kernel_rfl) (by kernel_rfl) (fun _ _ _ h => h) (yields_mid_dig (by rfl) _ rfl _ _ rfl PD hPl (fun W' hS' => rangeAt_below HRP.out hS' HGP.out)) hS2 ?_
                      simp only [Act.put, List.getElem_toArray, List.getElem_cons_zero, List.getElem_cons_succ, List.setIfInBounds_toArray, List.set_cons_zero, List.set_cons_succ]
                      refine wpAnyH_ready (rs := [14]) (by kernel_rfl) (by simp) ?_
                      refine AllReadyH.cons rfl (fun Kq hKq => ?_) AllReadyH.nil
                      simp only [List.getElem_toArray, List.getElem_cons_zero, List.getElem_cons_succ]
                      go_simp
                      refine (HTX.out _).mono ?_
                      rintro e V3 ⟨rfl, hb3⟩
                      have hS3 := hS2.trans (hb3.mono hS2.size)
                      refine hKq.out _ _ hS3 (fun _ => ?_)
                      clear hKq Kq hb3 hS2
                      refine wpAnyH_ready (rs := [15]) (by kernel_rfl) (by simp) ?_
                      refine AllReadyH.cons rfl (fun Kq hKq => ?_) AllReadyH.nil
                      simp only [List.getElem_toArray, List.getElem_cons_zero, List.getElem_cons_succ]
                      rw [if_pos (by rfl)]
                      refine wp_conv_str _ rfl _ ⟨TX.toArray⟩ HTXl.out rfl ?_
                      intro cc4 V4 hcc4 hcd4 hrd4 hb4 hzz4
                      have hS4 := hS3.trans (hb4.mono hS3.size)
                      refine hKq.out _ _ hS4 (fun _ => ?_)
                      clear hKq Kq hb4 hS3
                      refine wpAnyH_ready (rs := [16]) (by kernel_rfl) (by simp) ?_
                      refine AllReadyH.cons rfl (fun Kq hKq => ?_) AllReadyH.nil
                      simp only [List.getElem_toArray, List.getElem_cons_zero, List.getElem_cons_succ]
                      go_simp
                      refine (HCX.out _ _ _ hS4 hrd4).mono ?_
                      rintro e V5 ⟨rfl, hb5⟩
                      have hS5 := hS4.trans (hb5.mono hS4.size)
                      refine hKq.out _ _ hS5 (fun _ => ?_)
                      clear hKq Kq hb5 hS4
                      refine wpAnyH_take (i := 19) (v := .bool true) rfl (by kernel_rfl) (by kernel_rfl) (by kernel_rfl) (fun _ _ _ h => h) (yields_eql_dig (by rfl) _ _ _ rfl CX PD hCXl hPl rfl rfl _ HB2.out) hS5 ?_
                      simp only [Act.put, List.getElem_toArray, List.getElem_cons_zero, List.getElem_cons_succ, List.setIfInBounds_toArray, List.set_cons_zero, List.set_cons_succ]
                      refine wpAnyH_take (i := 20) (v := .bool true) rfl (by kernel_rfl) (by kernel_rfl) (by kernel_rfl) (fun _ _ _ h => h) (Or.inl ⟨by rfl, fun W' hS' => by go_simp⟩) hS5 ?_
                      simp only [Act.put, List.getElem_toArray, List.getElem_cons_zero, List.getElem_cons_succ, List.setIfInBounds_toArray, List.set_cons_zero, List.set_cons_succ]
                      refine wpAnyH_take (i := 21) (v := .bool true) rfl (by kernel_rfl) (by kernel_rfl) (by kernel_rfl) (fun _ _ _ h => h) (Or.inl ⟨by rfl, fun W' hS' => by go_simp⟩) hS5 ?_
                      simp only [Act.put, List.getElem_toArray, List.getElem_cons_zero, List.getElem_cons_succ, List.setIfInBounds_toArray, List.set_cons_zero, List.set_cons_succ]
                      refine wpAnyH_take (i := 22) (v := .agg y.cells.toArray) rfl (by kernel_rfl) (by kernel_rfl) (by kernel_rfl) (fun _ _ _ h => h) (yieldsIf_load_mid (by rfl) 69 _ rfl _ _ rfl y.cells _ (fun W' hS' => rangeAt_below HRY.out hS' HGY.out) Tryd.underlying69 rfl (by rw [y.cells_len hyl]; exact revealInfo)) hS5 ?_
                      simp only [Act.put, List.getElem_toArray, List.getElem_cons_zero, List.getElem_cons_succ, List.setIfInBounds_toArray, List.set_cons_zero, List.set_cons_succ]
                      refine wpAnyH_take (i := 26) (v := .pointer (some ⟨G7, 1, none⟩)) rfl (by kernel_rfl) (by kernel_rfl) (by kernel_rfl) (fun _ _ _ h => h) (Or.inl ⟨by rfl, fun W' hS' => by go_simp⟩) hS5 ?_
                      simp only [Act.put, List.getElem_toArray, List.getElem_cons_zero, List.getElem_cons_succ, List.setIfInBounds_toArray, List.set_cons_zero, List.set_cons_succ]
                      refine wpAnyH_take (i := 27) (v := .agg (dig PD)) rfl (by kernel_rfl) (by kernel_rfl) (by kernel_rfl) (fun _ _ _ h => h) (yields_mid_dig (by rfl) _ rfl _ _ rfl PD hPl (fun W' hS' => rangeAt_below HRP.out hS' HGP.out)) hS5 ?_
                      simp only [Act.put, List.getElem_toArray, List.getElem_cons_zero, List.getElem_cons_succ, List.setIfInBounds_toArray, List.set_cons_zero, List.set_cons_succ]
                      refine wpAnyH_ready (rs := [23]) (by kernel_rfl) (by simp) ?_
                      refine AllReadyH.cons rfl (fun Kq hKq => ?_) AllReadyH.nil
                      simp only [List.getElem_toArray, List.getElem_cons_zero, List.getElem_cons_succ]
                      go_simp
                      refine (HTY.out _).mono ?_
                      rintro e V6 ⟨rfl, hb6⟩
                      have hS6 := hS5.trans (hb6.mono hS5.size)
                      refine hKq.out _ _ hS6 (fun _ => ?_)
                      clear hKq Kq hb6 hS5
                      refine wpAnyH_ready (rs := [24]) (by kernel_rfl) (by simp) ?_
                      refine AllReadyH.cons rfl (fun Kq hKq => ?_) AllReadyH.nil
                      simp only [List.getElem_toArray, List.getElem_cons_zero, List.getElem_cons_succ]
                      rw [if_pos (by rfl)]
                      refine wp_conv_str _ rfl _ ⟨TY.toArray⟩ HTYl.out rfl ?_
                      intro cc7 V7 hcc7 hcd7 hrd7 hb7 hzz7
                      have hS7 := hS6.trans (hb7.mono hS6.size)
                      refine hKq.out _ _ hS7 (fun _ => ?_)
                      clear hKq Kq hb7 hS6
                      refine wpAnyH_ready (rs := [25]) (by kernel_rfl) (by simp) ?_
                      refine AllReadyH.cons rfl (fun Kq hKq => ?_) AllReadyH.nil
                      simp only [List.getElem_toArray, List.getElem_cons_zero, List.getElem_cons_succ]
                      go_simp
                      refine (HCY.out _ _ _ hS7 hrd7).mono ?_
                      rintro e V8 ⟨rfl, hb8⟩
                      have hS8 := hS7.trans (hb8.mono hS7.size)
                      refine hKq.out _ _ hS8 (fun _ => ?_)
                      clear hKq Kq hb8 hS7
                      refine wpAnyH_take (i := 28) (v := .bool false) rfl (by kernel_rfl) (by kernel_rfl) (by kernel_rfl) (fun _ _ _ h => h) (yields_eql_dig (by rfl) _ _ _ rfl CY PD hCYl hPl rfl rfl _ HB3.out) hS8 ?_
                      simp only [Act.put, List.getElem_toArray, List.getElem_cons_zero, List.getElem_cons_succ, List.setIfInBounds_toArray, List.set_cons_zero, List.set_cons_succ]
                      refine wpAnyH_take (i := 29) (v := .bool false) rfl (by kernel_rfl) (by kernel_rfl) (by kernel_rfl) (fun _ _ _ h => h) (Or.inl ⟨by rfl, fun W' hS' => by go_simp⟩) hS8 ?_
                      simp only [Act.put, List.getElem_toArray, List.getElem_cons_zero, List.getElem_cons_succ, List.setIfInBounds_toArray, List.set_cons_zero, List.set_cons_succ]
                      refine wpAnyH_done (by kernel_rfl) ?_ _
                      have HBL := Lib.hid (HB7.out.trans (hS8.mono HB7.out.size))
                      clear hS8
                      go_wp2_with fail
                      go_roundw
                      case rel => exact ⟨vv + 1, by omega, by go_num, all_step (by rw [← HN.out]; exact hlv) HALL3.out (by rw [← HPE.out]; exact HNH.out), HBL.out⟩
                      case measure => simp [intOf]; omega
                  · have HB2 := Lib.hid (decide_eq_false t2)
                    have HNH := Lib.hid (show ¬ Hit x y p from fun h => t2 (by rw [HCXE.out, HPD.out]; exact h.2.2.2.1))
                    clear t1 t2
                    go_wp2_with fail
                    refine wp_region_held_drew (S := fun W' => Below w7.heap.size w7 W') (by kernel_rfl) (Below.refl _ _).drew (fun hS0 => ?_)
                    refine wpAnyH_take (i := 0) (v := .pointer (some ⟨G7, 0, none⟩)) rfl (by kernel_rfl) (by kernel_rfl) (by kernel_rfl) (fun _ _ _ h => h) (Or.inl ⟨by rfl, fun W' hS' => by go_simp⟩) hS0 ?_
                    simp only [Act.put, List.getElem_toArray, List.getElem_cons_zero, List.getElem_cons_succ, List.setIfInBounds_toArray, List.set_cons_zero, List.set_cons_succ]
                    refine wpAnyH_take (i := 1) (v := .int .i64 pp) rfl (by kernel_rfl) (by kernel_rfl) (by kernel_rfl) (fun _ _ _ h => h) (Or.inl ⟨by rfl, fun W' hS' => by have := (hS'.cell (p := ⟨G7, 0, none⟩) HGP.out).trans KP.out; go_simp⟩) hS0 ?_
                    simp only [Act.put, List.getElem_toArray, List.getElem_cons_zero, List.getElem_cons_succ, List.setIfInBounds_toArray, List.set_cons_zero, List.set_cons_succ]
                    refine wpAnyH_take (i := 2) (v := .pointer (some ⟨G5, 0, none⟩)) rfl (by kernel_rfl) (by kernel_rfl) (by kernel_rfl) (fun _ _ _ h => h) (Or.inl ⟨by rfl, fun W' hS' => by go_simp⟩) hS0 ?_
                    simp only [Act.put, List.getElem_toArray, List.getElem_cons_zero, List.getElem_cons_succ, List.setIfInBounds_toArray, List.set_cons_zero, List.set_cons_succ]
                    refine wpAnyH_take (i := 3) (v := .int .i64 (xn : Int)) rfl (by kernel_rfl) (by kernel_rfl) (by kernel_rfl) (fun _ _ _ h => h) (Or.inl ⟨by rfl, fun W' hS' => by have := (hS'.cell (p := ⟨G5, 0, none⟩) HGX.out).trans KX.out; go_simp⟩) hS0 ?_
                    simp only [Act.put, List.getElem_toArray, List.getElem_cons_zero, List.getElem_cons_succ, List.setIfInBounds_toArray, List.set_cons_zero, List.set_cons_succ]
                    refine wpAnyH_take (i := 4) (v := .bool true) rfl (by kernel_rfl) (by kernel_rfl) (by kernel_rfl) (fun _ _ _ h => h) (Or.inl ⟨by rfl, fun W' hS' => by go_simp⟩) hS0 ?_
                    simp only [Act.put, List.getElem_toArray, List.getElem_cons_zero, List.getElem_cons_succ, List.setIfInBounds_toArray, List.set_cons_zero, List.set_cons_succ]
                    refine wpAnyH_take (i := 5) (v := .bool true) rfl (by kernel_rfl) (by kernel_rfl) (by kernel_rfl) (fun _ _ _ h => h) (Or.inl ⟨by rfl, fun W' hS' => by go_simp⟩) hS0 ?_
                    simp only [Act.put, List.getElem_toArray, List.getElem_cons_zero, List.getElem_cons_succ, List.setIfInBounds_toArray, List.set_cons_zero, List.set_cons_succ]
                    refine wpAnyH_take (i := 6) (v := .agg x.cells.toArray) rfl (by kernel_rfl) (by kernel_rfl) (by kernel_rfl) (fun _ _ _ h => h) (yieldsIf_load_mid (by rfl) 69 _ rfl _ _ rfl x.cells _ (fun W' hS' => rangeAt_below HRX.out hS' HGX.out) Tryd.underlying69 rfl (by rw [x.cells_len hxl]; exact revealInfo)) hS0 ?_
                    simp only [Act.put, List.getElem_toArray, List.getElem_cons_zero, List.getElem_cons_succ, List.setIfInBounds_toArray, List.set_cons_zero, List.set_cons_succ]
                    refine wpAnyH_take (i := 8) (v := .agg y.cells.toArray) rfl (by kernel_rfl) (by kernel_rfl) (by kernel_rfl) (fun _ _ _ h => h) (yieldsIf_load_mid (by rfl) 69 _ rfl _ _ rfl y.cells _ (fun W' hS' => rangeAt_below HRY.out hS' HGY.out) Tryd.underlying69 rfl (by rw [y.cells_len hyl]; exact revealInfo)) hS0 ?_
                    simp only [Act.put, List.getElem_toArray, List.getElem_cons_zero, List.getElem_cons_succ, List.setIfInBounds_toArray, List.set_cons_zero, List.set_cons_succ]
                    refine wpAnyH_ready (rs := [7]) (by kernel_rfl) (by simp) ?_
                    refine AllReadyH.cons rfl (fun Kq hKq => ?_) AllReadyH.nil
                    simp only [List.getElem_toArray, List.getElem_cons_zero, List.getElem_cons_succ]
                    go_simp
                    refine (HTX.out _).mono ?_
                    rintro e V1 ⟨rfl, hb1⟩
                    have hS1 := hS0.trans (hb1.mono hS0.size)
                    refine hKq.out _ _ hS1 (fun _ => ?_)
                    clear hKq Kq hb1 hS0
                    refine wpAnyH_ready (rs := [9]) (by kernel_rfl) (by simp) ?_
                    refine AllReadyH.cons rfl (fun Kq hKq => ?_) AllReadyH.nil
                    simp only [List.getElem_toArray, List.getElem_cons_zero, List.getElem_cons_succ]
                    go_simp
                    refine (HTY.out _).mono ?_
                    rintro e V2 ⟨rfl, hb2⟩
                    have hS2 := hS1.trans (hb2.mono hS1.size)
                    refine hKq.out _ _ hS2 (fun _ => ?_)
                    clear hKq Kq hb2 hS1
                    refine wpAnyH_take (i := 10) (v := .bool true) rfl (by kernel_rfl) (by kernel_rfl) (by kernel_rfl) (fun _ _ _ h => h) (Or.inl ⟨by rfl, fun W' hS' => by have := HNS.out; go_simp; first | done | exact HNS.out⟩) hS2 ?_
                    simp only [Act.put, List.getElem_toArray, List.getElem_cons_zero, List.getElem_cons_succ, List.setIfInBounds_toArray, List.set_cons_zero, List.set_cons_succ]
                    refine wpAnyH_take (i := 11) (v := .bool true) rfl (by kernel_rfl) (by kernel_rfl) (by kernel_rfl) (fun _ _ _ h => h) (Or.inl ⟨by rfl, fun W' hS' => by go_simp⟩) hS2 ?_
                    simp only [Act.put, List.getElem_toArray, List.getElem_cons_zero, List.getElem_cons_succ, List.setIfInBounds_toArray, List.set_cons_zero, List.set_cons_succ]
                    refine wpAnyH_take (i := 12) (v := .bool true) rfl (by kernel_rfl) (by kernel_rfl) (by kernel_rfl) (fun _ _ _ h => h) (Or.inl ⟨by rfl, fun W' hS' => by go_simp⟩) hS2 ?_
                    simp only [Act.put, List.getElem_toArray, List.getElem_cons_zero, List.getElem_cons_succ, List.setIfInBounds_toArray, List.set_cons_zero, List.set_cons_succ]
                    refine wpAnyH_take (i := 13) (v := .agg x.cells.toArray) rfl (by kernel_rfl) (by kernel_rfl) (by kernel_rfl) (fun _ _ _ h => h) (yieldsIf_load_mid (by rfl) 69 _ rfl _ _ rfl x.cells _ (fun W' hS' => rangeAt_below HRX.out hS' HGX.out) Tryd.underlying69 rfl (by rw [x.cells_len hxl]; exact revealInfo)) hS2 ?_
                    simp only [Act.put, List.getElem_toArray, List.getElem_cons_zero, List.getElem_cons_succ, List.setIfInBounds_toArray, List.set_cons_zero, List.set_cons_succ]
                    refine wpAnyH_take (i := 17) (v := .pointer (some ⟨G7, 1, none⟩)) rfl (by kernel_rfl) (by kernel_rfl) (by kernel_rfl) (fun _ _ _ h => h) (Or.inl ⟨by rfl, fun W' hS' => by go_simp⟩) hS2 ?_
                    simp only [Act.put, List.getElem_toArray, List.getElem_cons_zero, List.getElem_cons_succ, List.setIfInBounds_toArray, List.set_cons_zero, List.set_cons_succ]
                    refine wpAnyH_take (i := 18) (v := .agg (dig PD)) rfl (by kernel_rfl) (by kernel_rfl) (by kernel_rfl) (fun _ _ _ h => h) (yields_mid_dig (by rfl) _ rfl _ _ rfl PD hPl (fun W' hS' => rangeAt_below HRP.out hS' HGP.out)) hS2 ?_
                    simp only [Act.put, List.getElem_toArray, List.getElem_cons_zero, List.getElem_cons_succ, List.setIfInBounds_toArray, List.set_cons_zero, List.set_cons_succ]
                    refine wpAnyH_ready (rs := [14]) (by kernel_rfl) (by simp) ?_
                    refine AllReadyH.cons rfl (fun Kq hKq => ?_) AllReadyH.nil
                    simp only [List.getElem_toArray, List.getElem_cons_zero, List.getElem_cons_succ]
                    go_simp
                    refine (HTX.out _).mono ?_
                    rintro e V3 ⟨rfl, hb3⟩
                    have hS3 := hS2.trans (hb3.mono hS2.size)
                    refine hKq.out _ _ hS3 (fun _ => ?_)
                    clear hKq Kq hb3 hS2
                    refine wpAnyH_ready (rs := [15]) (by kernel_rfl) (by simp) ?_
                    refine AllReadyH.cons rfl (fun Kq hKq => ?_) AllReadyH.nil
                    simp only [List.getElem_toArray, List.getElem_cons_zero, List.getElem_cons_succ]
                    rw [if_pos (by rfl)]
                    refine wp_conv_str _ rfl _ ⟨TX.toArray⟩ HTXl.out rfl ?_
                    intro cc4 V4 hcc4 hcd4 hrd4 hb4 hzz4
                    have hS4 := hS3.trans (hb4.mono hS3.size)
                    refine hKq.out _ _ hS4 (fun _ => ?_)
                    clear hKq Kq hb4 hS3
                    refine wpAnyH_ready (rs := [16]) (by kernel_rfl) (by simp) ?_
                    refine AllReadyH.cons rfl (fun Kq hKq => ?_) AllReadyH.nil
                    simp only [List.getElem_toArray, List.getElem_cons_zero, List.getElem_cons_succ]
                    go_simp
                    refine (HCX.out _ _ _ hS4 hrd4).mono ?_
                    rintro e V5 ⟨rfl, hb5⟩
                    have hS5 := hS4.trans (hb5.mono hS4.size)
                    refine hKq.out _ _ hS5 (fun _ => ?_)
                    clear hKq Kq hb5 hS4
                    refine wpAnyH_take (i := 19) (v := .bool false) rfl (by kernel_rfl) (by kernel_rfl) (by kernel_rfl) (fun _ _ _ h => h) (yields_eql_dig (by rfl) _ _ _ rfl CX PD hCXl hPl rfl rfl _ HB2.out) hS5 ?_
                    simp only [Act.put, List.getElem_toArray, List.getElem_cons_zero, List.getElem_cons_succ, List.setIfInBounds_toArray, List.set_cons_zero, List.set_cons_succ]
                    refine wpAnyH_take (i := 20) (v := .bool false) rfl (by kernel_rfl) (by kernel_rfl) (by kernel_rfl) (fun _ _ _ h => h) (Or.inl ⟨by rfl, fun W' hS' => by go_simp⟩) hS5 ?_
                    simp only [Act.put, List.getElem_toArray, List.getElem_cons_zero, List.getElem_cons_succ, List.setIfInBounds_toArray, List.set_cons_zero, List.set_cons_succ]
                    refine wpAnyH_take (i := 21) (v := .bool false) rfl (by kernel_rfl) (by kernel_rfl) (by kernel_rfl) (fun _ _ _ h => h) (Or.inl ⟨by rfl, fun W' hS' => by go_simp⟩) hS5 ?_
                    simp only [Act.put, List.getElem_toArray, List.getElem_cons_zero, List.getElem_cons_succ, List.setIfInBounds_toArray, List.set_cons_zero, List.set_cons_succ]
                    refine wpAnyH_take (i := 22) (v := undef) rfl (by kernel_rfl) (by kernel_rfl) (by kernel_rfl) (fun _ _ _ h => h) (Or.inr ⟨by rfl, rfl⟩) hS5 ?_
                    simp only [Act.put, List.getElem_toArray, List.getElem_cons_zero, List.getElem_cons_succ, List.setIfInBounds_toArray, List.set_cons_zero, List.set_cons_succ]
                    refine wpAnyH_take (i := 23) (v := undef) rfl (by kernel_rfl) (by kernel_rfl) (by kernel_rfl) (fun _ _ _ h => h) (Or.inr ⟨by rfl, rfl⟩) hS5 ?_
                    simp only [Act.put, List.getElem_toArray, List.getElem_cons_zero, List.getElem_cons_succ, List.setIfInBounds_toArray, List.set_cons_zero, List.set_cons_succ]
                    refine wpAnyH_take (i := 24) (v := undef) rfl (by kernel_rfl) (by kernel_rfl) (by kernel_rfl) (fun _ _ _ h => h) (Or.inr ⟨by rfl, rfl⟩) hS5 ?_
                    simp only [Act.put, List.getElem_toArray, List.getElem_cons_zero, List.getElem_cons_succ, List.setIfInBounds_toArray, List.set_cons_zero, List.set_cons_succ]
                    refine wpAnyH_take (i := 25) (v := undef) rfl (by kernel_rfl) (by kernel_rfl) (by kernel_rfl) (fun _ _ _ h => h) (Or.inr ⟨by rfl, rfl⟩) hS5 ?_
                    simp only [Act.put, List.getElem_toArray, List.getElem_cons_zero, List.getElem_cons_succ, List.setIfInBounds_toArray, List.set_cons_zero, List.set_cons_succ]
                    refine wpAnyH_take (i := 26) (v := undef) rfl (by kernel_rfl) (by kernel_rfl) (by kernel_rfl) (fun _ _ _ h => h) (Or.inr ⟨by rfl, rfl⟩) hS5 ?_
                    simp only [Act.put, List.getElem_toArray, List.getElem_cons_zero, List.getElem_cons_succ, List.setIfInBounds_toArray, List.set_cons_zero, List.set_cons_succ]
                    refine wpAnyH_take (i := 27) (v := undef) rfl (by kernel_rfl) (by kernel_rfl) (by kernel_rfl) (fun _ _ _ h => h) (Or.inr ⟨by rfl, rfl⟩) hS5 ?_
                    simp only [Act.put, List.getElem_toArray, List.getElem_cons_zero, List.getElem_cons_succ, List.setIfInBounds_toArray, List.set_cons_zero, List.set_cons_succ]
                    refine wpAnyH_take (i := 28) (v := undef) rfl (by kernel_rfl) (by kernel_rfl) (by kernel_rfl) (fun _ _ _ h => h) (Or.inr ⟨by rfl, rfl⟩) hS5 ?_
                    simp only [Act.put, List.getElem_toArray, List.getElem_cons_zero, List.getElem_cons_succ, List.setIfInBounds_toArray, List.set_cons_zero, List.set_cons_succ]
                    refine wpAnyH_take (i := 29) (v := .bool false) rfl (by kernel_rfl) (by kernel_rfl) (by kernel_rfl) (fun _ _ _ h => h) (Or.inl ⟨by rfl, fun W' hS' => by go_simp⟩) hS5 ?_
                    simp only [Act.put, List.getElem_toArray, List.getElem_cons_zero, List.getElem_cons_succ, List.setIfInBounds_toArray, List.set_cons_zero, List.set_cons_succ]
                    refine wpAnyH_done (by kernel_rfl) ?_ _
                    have HBL := Lib.hid (HB7.out.trans (hS5.mono HB7.out.size))
                    clear hS5
                    go_wp2_with fail
                    go_roundw
                    case rel => exact ⟨vv + 1, by omega, by go_num, all_step (by rw [← HN.out]; exact hlv) HALL3.out (by rw [← HPE.out]; exact HNH.out), HBL.out⟩
                    case measure => simp [intOf]; omega
                · have g1 : (pp == (xn : Int)) = false := beq_eq_false_iff_ne.2 t1
                  have HNH := Lib.hid (show ¬ Hit x y p from fun h => t1 (by rw [HPP.out, h.2.2.1, HXN.out]))
                  clear t1
                  go_wp2_with fail
                  refine wp_region_held_drew (S := fun W' => Below w7.heap.size w7 W') (by kernel_rfl) (Below.refl _ _).drew (fun hS0 => ?_)
                  refine wpAnyH_take (i := 0) (v := .pointer (some ⟨G7, 0, none⟩)) rfl (by kernel_rfl) (by kernel_rfl) (by kernel_rfl) (fun _ _ _ h => h) (Or.inl ⟨by rfl, fun W' hS' => by go_simp⟩) hS0 ?_
                  simp only [Act.put, List.getElem_toArray, List.getElem_cons_zero, List.getElem_cons_succ, List.setIfInBounds_toArray, List.set_cons_zero, List.set_cons_succ]
                  refine wpAnyH_take (i := 1) (v := .int .i64 pp) rfl (by kernel_rfl) (by kernel_rfl) (by kernel_rfl) (fun _ _ _ h => h) (Or.inl ⟨by rfl, fun W' hS' => by have := (hS'.cell (p := ⟨G7, 0, none⟩) HGP.out).trans KP.out; go_simp⟩) hS0 ?_
                  simp only [Act.put, List.getElem_toArray, List.getElem_cons_zero, List.getElem_cons_succ, List.setIfInBounds_toArray, List.set_cons_zero, List.set_cons_succ]
                  refine wpAnyH_take (i := 2) (v := .pointer (some ⟨G5, 0, none⟩)) rfl (by kernel_rfl) (by kernel_rfl) (by kernel_rfl) (fun _ _ _ h => h) (Or.inl ⟨by rfl, fun W' hS' => by go_simp⟩) hS0 ?_
                  simp only [Act.put, List.getElem_toArray, List.getElem_cons_zero, List.getElem_cons_succ, List.setIfInBounds_toArray, List.set_cons_zero, List.set_cons_succ]
                  refine wpAnyH_take (i := 3) (v := .int .i64 (xn : Int)) rfl (by kernel_rfl) (by kernel_rfl) (by kernel_rfl) (fun _ _ _ h => h) (Or.inl ⟨by rfl, fun W' hS' => by have := (hS'.cell (p := ⟨G5, 0, none⟩) HGX.out).trans KX.out; go_simp⟩) hS0 ?_
                  simp only [Act.put, List.getElem_toArray, List.getElem_cons_zero, List.getElem_cons_succ, List.setIfInBounds_toArray, List.set_cons_zero, List.set_cons_succ]
                  refine wpAnyH_take (i := 4) (v := .bool false) rfl (by kernel_rfl) (by kernel_rfl) (by kernel_rfl) (fun _ _ _ h => h) (Or.inl ⟨by rfl, fun W' hS' => by go_simp⟩) hS0 ?_
                  simp only [Act.put, List.getElem_toArray, List.getElem_cons_zero, List.getElem_cons_succ, List.setIfInBounds_toArray, List.set_cons_zero, List.set_cons_succ]
                  refine wpAnyH_take (i := 5) (v := .bool false) rfl (by kernel_rfl) (by kernel_rfl) (by kernel_rfl) (fun _ _ _ h => h) (Or.inl ⟨by rfl, fun W' hS' => by go_simp⟩) hS0 ?_
                  simp only [Act.put, List.getElem_toArray, List.getElem_cons_zero, List.getElem_cons_succ, List.setIfInBounds_toArray, List.set_cons_zero, List.set_cons_succ]
                  refine wpAnyH_take (i := 6) (v := undef) rfl (by kernel_rfl) (by kernel_rfl) (by kernel_rfl) (fun _ _ _ h => h) (Or.inr ⟨by rfl, rfl⟩) hS0 ?_
                  simp only [Act.put, List.getElem_toArray, List.getElem_cons_zero, List.getElem_cons_succ, List.setIfInBounds_toArray, List.set_cons_zero, List.set_cons_succ]
                  refine wpAnyH_take (i := 7) (v := undef) rfl (by kernel_rfl) (by kernel_rfl) (by kernel_rfl) (fun _ _ _ h => h) (Or.inr ⟨by rfl, rfl⟩) hS0 ?_
                  simp only [Act.put, List.getElem_toArray, List.getElem_cons_zero, List.getElem_cons_succ, List.setIfInBounds_toArray, List.set_cons_zero, List.set_cons_succ]
                  refine wpAnyH_take (i := 8) (v := undef) rfl (by kernel_rfl) (by kernel_rfl) (by kernel_rfl) (fun _ _ _ h => h) (Or.inr ⟨by rfl, rfl⟩) hS0 ?_
                  simp only [Act.put, List.getElem_toArray, List.getElem_cons_zero, List.getElem_cons_succ, List.setIfInBounds_toArray, List.set_cons_zero, List.set_cons_succ]
                  refine wpAnyH_take (i := 9) (v := undef) rfl (by kernel_rfl) (by kernel_rfl) (by kernel_rfl) (fun _ _ _ h => h) (Or.inr ⟨by rfl, rfl⟩) hS0 ?_
                  simp only [Act.put, List.getElem_toArray, List.getElem_cons_zero, List.getElem_cons_succ, List.setIfInBounds_toArray, List.set_cons_zero, List.set_cons_succ]
                  refine wpAnyH_take (i := 10) (v := undef) rfl (by kernel_rfl) (by kernel_rfl) (by kernel_rfl) (fun _ _ _ h => h) (Or.inr ⟨by rfl, rfl⟩) hS0 ?_
                  simp only [Act.put, List.getElem_toArray, List.getElem_cons_zero, List.getElem_cons_succ, List.setIfInBounds_toArray, List.set_cons_zero, List.set_cons_succ]
                  refine wpAnyH_take (i := 11) (v := .bool false) rfl (by kernel_rfl) (by kernel_rfl) (by kernel_rfl) (fun _ _ _ h => h) (Or.inl ⟨by rfl, fun W' hS' => by go_simp⟩) hS0 ?_
                  simp only [Act.put, List.getElem_toArray, List.getElem_cons_zero, List.getElem_cons_succ, List.setIfInBounds_toArray, List.set_cons_zero, List.set_cons_succ]
                  refine wpAnyH_take (i := 12) (v := .bool false) rfl (by kernel_rfl) (by kernel_rfl) (by kernel_rfl) (fun _ _ _ h => h) (Or.inl ⟨by rfl, fun W' hS' => by go_simp⟩) hS0 ?_
                  simp only [Act.put, List.getElem_toArray, List.getElem_cons_zero, List.getElem_cons_succ, List.setIfInBounds_toArray, List.set_cons_zero, List.set_cons_succ]
                  refine wpAnyH_take (i := 13) (v := undef) rfl (by kernel_rfl) (by kernel_rfl) (by kernel_rfl) (fun _ _ _ h => h) (Or.inr ⟨by rfl, rfl⟩) hS0 ?_
                  simp only [Act.put, List.getElem_toArray, List.getElem_cons_zero, List.getElem_cons_succ, List.setIfInBounds_toArray, List.set_cons_zero, List.set_cons_succ]
                  refine wpAnyH_take (i := 14) (v := undef) rfl (by kernel_rfl) (by kernel_rfl) (by kernel_rfl) (fun _ _ _ h => h) (Or.inr ⟨by rfl, rfl⟩) hS0 ?_
                  simp only [Act.put, List.getElem_toArray, List.getElem_cons_zero, List.getElem_cons_succ, List.setIfInBounds_toArray, List.set_cons_zero, List.set_cons_succ]
                  refine wpAnyH_take (i := 15) (v := undef) rfl (by kernel_rfl) (by kernel_rfl) (by kernel_rfl) (fun _ _ _ h => h) (Or.inr ⟨by rfl, rfl⟩) hS0 ?_
                  simp only [Act.put, List.getElem_toArray, List.getElem_cons_zero, List.getElem_cons_succ, List.setIfInBounds_toArray, List.set_cons_zero, List.set_cons_succ]
                  refine wpAnyH_take (i := 16) (v := undef) rfl (by kernel_rfl) (by kernel_rfl) (by kernel_rfl) (fun _ _ _ h => h) (Or.inr ⟨by rfl, rfl⟩) hS0 ?_
                  simp only [Act.put, List.getElem_toArray, List.getElem_cons_zero, List.getElem_cons_succ, List.setIfInBounds_toArray, List.set_cons_zero, List.set_cons_succ]
                  refine wpAnyH_take (i := 17) (v := undef) rfl (by kernel_rfl) (by kernel_rfl) (by kernel_rfl) (fun _ _ _ h => h) (Or.inr ⟨by rfl, rfl⟩) hS0 ?_
                  simp only [Act.put, List.getElem_toArray, List.getElem_cons_zero, List.getElem_cons_succ, List.setIfInBounds_toArray, List.set_cons_zero, List.set_cons_succ]
                  refine wpAnyH_take (i := 18) (v := undef) rfl (by kernel_rfl) (by kernel_rfl) (by kernel_rfl) (fun _ _ _ h => h) (Or.inr ⟨by rfl, rfl⟩) hS0 ?_
                  simp only [Act.put, List.getElem_toArray, List.getElem_cons_zero, List.getElem_cons_succ, List.setIfInBounds_toArray, List.set_cons_zero, List.set_cons_succ]
                  refine wpAnyH_take (i := 19) (v := undef) rfl (by kernel_rfl) (by kernel_rfl) (by kernel_rfl) (fun _ _ _ h => h) (Or.inr ⟨by rfl, rfl⟩) hS0 ?_
                  simp only [Act.put, List.getElem_toArray, List.getElem_cons_zero, List.getElem_cons_succ, List.setIfInBounds_toArray, List.set_cons_zero, List.set_cons_succ]
                  refine wpAnyH_take (i := 20) (v := .bool false) rfl (by kernel_rfl) (by kernel_rfl) (by kernel_rfl) (fun _ _ _ h => h) (Or.inl ⟨by rfl, fun W' hS' => by go_simp⟩) hS0 ?_
                  simp only [Act.put, List.getElem_toArray, List.getElem_cons_zero, List.getElem_cons_succ, List.setIfInBounds_toArray, List.set_cons_zero, List.set_cons_succ]
                  refine wpAnyH_take (i := 21) (v := .bool false) rfl (by kernel_rfl) (by kernel_rfl) (by kernel_rfl) (fun _ _ _ h => h) (Or.inl ⟨by rfl, fun W' hS' => by go_simp⟩) hS0 ?_
                  simp only [Act.put, List.getElem_toArray, List.getElem_cons_zero, List.getElem_cons_succ, List.setIfInBounds_toArray, List.set_cons_zero, List.set_cons_succ]
                  refine wpAnyH_take (i := 22) (v := undef) rfl (by kernel_rfl) (by kernel_rfl) (by kernel_rfl) (fun _ _ _ h => h) (Or.inr ⟨by rfl, rfl⟩) hS0 ?_
                  simp only [Act.put, List.getElem_toArray, List.getElem_cons_zero, List.getElem_cons_succ, List.setIfInBounds_toArray, List.set_cons_zero, List.set_cons_succ]
                  refine wpAnyH_take (i := 23) (v := undef) rfl (by kernel_rfl) (by kernel_rfl) (by kernel_rfl) (fun _ _ _ h => h) (Or.inr ⟨by rfl, rfl⟩) hS0 ?_
                  simp only [Act.put, List.getElem_toArray, List.getElem_cons_zero, List.getElem_cons_succ, List.setIfInBounds_toArray, List.set_cons_zero, List.set_cons_succ]
                  refine wpAnyH_take (i := 24) (v := undef) rfl (by kernel_rfl) (by kernel_rfl) (by kernel_rfl) (fun _ _ _ h => h) (Or.inr ⟨by rfl, rfl⟩) hS0 ?_
                  simp only [Act.put, List.getElem_toArray, List.getElem_cons_zero, List.getElem_cons_succ, List.setIfInBounds_toArray, List.set_cons_zero, List.set_cons_succ]
                  refine wpAnyH_take (i := 25) (v := undef) rfl (by kernel_rfl) (by kernel_rfl) (by kernel_rfl) (fun _ _ _ h => h) (Or.inr ⟨by rfl, rfl⟩) hS0 ?_
                  simp only [Act.put, List.getElem_toArray, List.getElem_cons_zero, List.getElem_cons_succ, List.setIfInBounds_toArray, List.set_cons_zero, List.set_cons_succ]
                  refine wpAnyH_take (i := 26) (v := undef) rfl (by kernel_rfl) (by kernel_rfl) (by kernel_rfl) (fun _ _ _ h => h) (Or.inr ⟨by rfl, rfl⟩) hS0 ?_
                  simp only [Act.put, List.getElem_toArray, List.getElem_cons_zero, List.getElem_cons_succ, List.setIfInBounds_toArray, List.set_cons_zero, List.set_cons_succ]
                  refine wpAnyH_take (i := 27) (v := undef) rfl (by kernel_rfl) (by kernel_rfl) (by kernel_rfl) (fun _ _ _ h => h) (Or.inr ⟨by rfl, rfl⟩) hS0 ?_
                  simp only [Act.put, List.getElem_toArray, List.getElem_cons_zero, List.getElem_cons_succ, List.setIfInBounds_toArray, List.set_cons_zero, List.set_cons_succ]
                  refine wpAnyH_take (i := 28) (v := undef) rfl (by kernel_rfl) (by kernel_rfl) (by kernel_rfl) (fun _ _ _ h => h) (Or.inr ⟨by rfl, rfl⟩) hS0 ?_
                  simp only [Act.put, List.getElem_toArray, List.getElem_cons_zero, List.getElem_cons_succ, List.setIfInBounds_toArray, List.set_cons_zero, List.set_cons_succ]
                  refine wpAnyH_take (i := 29) (v := .bool false) rfl (by kernel_rfl) (by kernel_rfl) (by kernel_rfl) (fun _ _ _ h => h) (Or.inl ⟨by rfl, fun W' hS' => by go_simp⟩) hS0 ?_
                  simp only [Act.put, List.getElem_toArray, List.getElem_cons_zero, List.getElem_cons_succ, List.setIfInBounds_toArray, List.set_cons_zero, List.set_cons_succ]
                  refine wpAnyH_done (by kernel_rfl) ?_ _
                  have HBL := Lib.hid (HB7.out.trans (hS0.mono HB7.out.size))
                  clear hS0
                  go_wp2_with fail
                  go_roundw
                  case rel => exact ⟨vv + 1, by omega, by go_num, all_step (by rw [← HN.out]; exact hlv) HALL3.out (by rw [← HPE.out]; exact HNH.out), HBL.out⟩
                  case measure => simp [intOf]; omega
              · obtain rfl : vv = n := by omega
                have HNH := Lib.hid (show ∀ p ∈ l, ¬ Hit x y p by
                  have h := HALL3.out
                  rw [List.take_of_length_le (by rw [← HN.out]; exact Nat.le_refl _)] at h
                  exact h)
                have HBL := Lib.hid (HBR6.out.trans (HBR.out.mono HBR6.out.size))
                clear HALL3 HBR HBW
                go_wp2_with fail
                go_roundw
                case rel => exact ⟨u + 1, by omega, by go_num, all_step (by rw [← HQ.out]; exact hlu) HALL2.out (by rw [← HYE.out]; exact HNH.out), HBL.out⟩
                case measure => simp [intOf]; omega
          · obtain rfl : u = q := by omega
            have HNH := Lib.hid (show ∀ y ∈ s, ∀ p ∈ l, ¬ Hit x y p by
              have h := HALL2.out
              rw [List.take_of_length_le (by rw [← HQ.out]; exact Nat.le_refl _)] at h
              exact h)
            have HBL := Lib.hid (HBR5.out.trans (HBR.out.mono HBR5.out.size))
            clear HALL2 HBR HBW
            go_wp2_with fail
            go_roundw
            case rel => exact ⟨t + 1, by omega, by go_num, all_step (P := fun x => ∀ y ∈ s, ∀ p ∈ l, ¬ Hit x y p) (by rw [← HK.out]; exact hlt) HALL1.out (by rw [← HXE.out]; exact HNH.out), HBL.out⟩
            case measure => simp [intOf]; omega
      · obtain rfl : t = k := by omega
        have h := HALL1.out
        rw [List.take_of_length_le (by rw [← HK.out]; exact Nat.le_refl _)] at h
        exact absurd h HNH0.out
set_option maxRecDepth 100000 in
set_option linter.unusedSimpArgs false in
set_option linter.unusedVariables false in
set_option maxHeartbeats 4000000 in
theorem fixed_bad (A B C : Option Addr) (l m s : List Pd) (n c k c2 q c3 : Nat) (hn : n = l.length) (hk : k = m.length) (hq : q = s.length) (hil : PdInts l) (him : PdInts m) (his : PdInts s) (w : World) (hL : Laid w) (hA : PRd w w.heap.size A l) (hB : PRd w w.heap.size B m) (hC : PRd w w.heap.size C s) (hf : ¬ (inForm l ∧ inForm m ∧ inForm s)) :
    Calls Tryd.prog 17 #[.slice A n c, .slice B k c2, .slice C q c3] w (Ret (.bool true) w) := by
  have HS := Lib.hid (fun W h => sane31_ok W h)
  have HL := Lib.hid hL
  have HFO := Lib.hid (fun W (hb : Below w.heap.size w W) => formed31_any A B l m n c k c2 hn hk hil him W ((hA.below hb).more hb.size) ((hB.below hb).more hb.size))
  have HFP := Lib.hid (fun W (hb : Below w.heap.size w W) => formed31_any A C l s n c q c3 hn hq hil his W ((hA.below hb).more hb.size) ((hC.below hb).more hb.size))
  cases f1 : (formB l && formB m) with
  | false =>
    rw [f1] at HFO
    clear hL hA hB hC hn hk hq hil him his hf f1
    go_enter Tryd.func17, Tryd.ntmps17
    go_wp2_with fail
    refine (HS.out w HL.out).mono ?_
    rintro e w1 ⟨rfl, hb1⟩
    go_wp2_with fail
    refine (HFO.out w1 hb1).mono ?_
    rintro e w2 ⟨rfl, hb2⟩
    go_wp2_with (refine wpList_skip (by rfl) ?_)
    go_ret
    exact ⟨rfl, hb1.trans (hb2.mono hb1.size)⟩
  | true =>
    have f2 : (formB l && formB s) = false := by
      cases h1 : formB l <;> cases h2 : formB m <;> cases h3 : formB s <;> simp_all [formB_true]
    rw [f1] at HFO
    rw [f2] at HFP
    clear hL hA hB hC hn hk hq hil him his hf f1 f2
    go_enter Tryd.func17, Tryd.ntmps17
    go_wp2_with fail
    refine (HS.out w HL.out).mono ?_
    rintro e w1 ⟨rfl, hb1⟩
    go_wp2_with fail
    refine (HFO.out w1 hb1).mono ?_
    rintro e w2 ⟨rfl, hb2⟩
    have hB2 := hb1.trans (hb2.mono hb1.size)
    go_wp2_with fail
    refine (HFP.out w2 hB2).mono ?_
    rintro e w3 ⟨rfl, hb3⟩
    go_wp2_with fail
    go_ret
    exact ⟨rfl, hB2.trans (hb3.mono hB2.size)⟩
set_option linter.unusedVariables false in
theorem beaconFixed_any (A : Option Addr) (l : List Pd) (c : Nat) (hc : l.length ≤ c) (hcc : c ≤ 9223372036854775807) (hil : PdInts l) (B : Option Addr) (m : List Pd) (c2 : Nat) (hc2 : m.length ≤ c2) (hcc2 : c2 ≤ 9223372036854775807) (him : PdInts m)
    (C : Option Addr) (s : List Pd) (c3 : Nat) (hc3 : s.length ≤ c3) (hcc3 : c3 ≤ 9223372036854775807) (his : PdInts s) (w : World) (hL : Laid w) (hA : PRd w w.heap.size A l) (hB : PRd w w.heap.size B m) (hC : PRd w w.heap.size C s) :
    Calls Tryd.prog 17 #[.slice A l.length c, .slice B m.length c2, .slice C s.length c3] w (Ret (.bool true) w) := by
  by_cases h : inForm l ∧ inForm m ∧ inForm s
  · exact fixed_good A B C l m s l.length c m.length c2 s.length c3 rfl rfl rfl hil him his w hL hA hB hC h.1 h.2.1 h.2.2
  · exact fixed_bad A B C l m s l.length c m.length c2 s.length c3 rfl rfl rfl hil him his w hL hA hB hC h
end Go.Proofs.YtibnikokgbfcdaaDoor

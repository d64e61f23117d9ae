/- Walk: podiumref31.Bits. -/
import Derived.Test.YtibnikokgbfcdaaDoorBR
import Derived.Test.YtibnikokgbfcdaaDoorB7
namespace Go.Proofs.YtibnikokgbfcdaaDoor
open Go Go.RowKit

theorem wrap_half (Z : Nat) (h : Z < 256) : wrap64 ((Z : Int) / 2) = ((Z / 2 : Nat) : Int) := by unfold wrap64; omega
theorem wrap_byte (Y : Nat) (h : Y < 256) : wrap64 (Y : Int) = (Y : Int) := by unfold wrap64; omega
theorem bitsTag_eq : bitsTag = (ByteArray.mk #[98, 105, 116, 115]).data.toList := rfl
/-- The digest of a seed and a number, by the reference. -/
theorem r31tag_bits (d : List UInt8) (hd : d.length = 32) (k : Nat) (hk : k ≤ 1000000) (w : World) (g : Nat) (c : Nat) (hc : 2 ≤ c) (hc2 : c ≤ 9223372036854775807) (hE : Elems w w.heap.size (some ⟨g, 0, none⟩) [V4.text ⟨d.toArray⟩, V4.int k]) :
    Calls Tryd.prog 99 #[.string ⟨#[98, 105, 116, 115]⟩, .agg #[.int .i64 3, .int .i64 0, .string ⟨#[]⟩, .slice (some ⟨g, 0, none⟩) 2 c]] w (Ret (.agg (dig (tagged bitsTag (bitsText d k)))) w) := by
  have hl := bitsText_len d k hd (by omega)
  refine r31Tagged_any ⟨#[98, 105, 116, 115]⟩ (by decide) _ _ _ _ (V4.list (some ⟨g, 0, none⟩) 2 c) rfl 1 (bitsText d k) w ?_ (by decide) (by omega)
  refine renc_list w (some ⟨g, 0, none⟩) [V4.text ⟨d.toArray⟩, V4.int k] [textB d, intB k] c 0 rfl hE hc hc2 (by unfold bitsText at hl; omega) (by decide) fun i x e hx he => ?_
  rcases i with _ | _ | i
  · obtain rfl := Option.some.inj hx
    obtain rfl := Option.some.inj he
    exact renc_text w ⟨d.toArray⟩ (by show d.toArray.size ≤ _; simp [hd])
  · obtain rfl := Option.some.inj hx
    obtain rfl := Option.some.inj he
    exact renc_int w k (by omega)
  · cases hx
theorem hD2z {w : World} {g : Nat} {t : TypeId} {cs : Array Value} (h : Blk w g t cs) : g < w.heap.size := h.lt
theorem own_new {w w' : World} {v v' : Value} (h : Grew w w' v v') : ∀ g, v'.ownBlock = some g → v.ownBlock = some g ∨ w.heap.size ≤ g := fun g e => by
  rcases h.2 with h2 | ⟨k, h2, h3⟩
  · exact .inl (by rw [← h2]; exact e)
  · rw [h2] at e
    cases e
    exact .inr h3
set_option maxRecDepth 100000 in
set_option linter.unusedSimpArgs false in
set_option linter.unusedVariables false in
set_option maxHeartbeats 4000000 in
theorem r31Bits_good (d : List UInt8) (hd : d.length = 32) (n : Nat) (hn : n ≤ 4096) (w : World) : Calls Tryd.prog 55 #[.agg (dig d), .int .i64 n] w (BitsPost d n w) := by
  have g1 : decide ((n : Int) < 0) = false := decide_eq_false (by omega)
  have g2 : decide ((4096 : Int) < (n : Int)) = false := decide_eq_false (by omega)
  go_enter Tryd.func55, Tryd.ntmps55
  have hO0 : IOwn ((w.alloc (.cells (dig d) 23)).alloc (.cells #[] 3)) (w.heap.size + 1) (.slice (some ⟨w.heap.size + 1, 0, none⟩) 0 0) (bitsL d 0) :=
    ⟨rfl, .inr ⟨w.heap.size + 1, 0, #[], rfl, by omega, by
      have h := heap_alloc_new (w.alloc (.cells (dig d) 23)) (.cells #[] 3)
      simpa using h, Nat.le_refl _, by simp only [maxLen]; omega, rfl, rfl⟩⟩
  have hb0 : Below w.heap.size w ((w.alloc (.cells (dig d) 23)).alloc (.cells #[] 3)) := ((Below.refl _ w).alloc (Nat.le_refl _) _).alloc (by simp) _
  have bd0 : Blk ((w.alloc (.cells (dig d) 23)).alloc (.cells #[] 3)) w.heap.size 23 (dig d) := (Blk.new w _ _).alloc _
  go_wp2_with fail
  generalize (w.alloc (.cells (dig d) 23)).alloc (.cells #[] 3) = w0 at hO0 hb0 bd0 ⊢
  have hz0 := bd0.lt
  go_loopw [6, 7] (fun v kk wr => ∃ k m : Nat, k ≤ 17 ∧ kk = .int .i64 k ∧ (m = 256 * k ∨ m = n) ∧ m ≤ n ∧ IOwn wr (w.heap.size + 1) v (bitsL d m) ∧ Below (w.heap.size + 1) w0 wr ∧ w.heap.size + 1 ≤ wr.heap.size) (fun _ kk _ => 18 - (intOf kk).toNat)
  case atStart => exact ⟨0, 0, by omega, rfl, .inl rfl, by omega, hO0, Below.refl _ _, by have := hb0.size; omega⟩
  case round =>
    obtain ⟨k, m, hk, rfl, hm, hmn, hO, hB, hzr⟩ := hrel
    obtain ⟨A, c, rfl, hmc, hcm, -⟩ := hO.shape
    rw [bitsL_length] at hmc
    have hlen : (bitsL d m).length = m := bitsL_length d m
    rw [hlen] at hO ⊢
    by_cases hlt : m < n
    · obtain rfl : m = 256 * k := by omega
      have bd1 := bd0.below hB (by omega)
      have HO := Lib.hid hO
      have HB := Lib.hid hB
      have HD := Lib.hid bd1
      have HLE := Lib.hid hlen
      clear hO hB bd1 hm hlen hO0
      go_wp2_with (refine load_dig rfl _ rfl d hd HD.out rfl ?_)
      refine (r31Text_any d hd wr).mono ?_
      rintro e w1 ⟨rfl, hb1⟩
      go_wp2_with fail
      refine (r31Number_any (k : Int) w1).mono ?_
      rintro e w2 ⟨rfl, hb2⟩
      have hb12 := hb1.trans (hb2.mono hb1.size)
      clear hb1 hb2
      go_wp2_with fail
      refine calls_gen (fun W => Elems W W.heap.size (some ⟨w2.heap.size, 0, none⟩) [V4.text ⟨d.toArray⟩, V4.int k] ∧ Below w2.heap.size w2 W) ⟨elems_of_blk [V4.text ⟨d.toArray⟩, V4.int k] (Blk.new w2 _ _), (Below.refl _ _).alloc (Nat.le_refl _) _⟩ (fun w3 ⟨hE3, hb3⟩ => ?_)
      refine (r31List_any (some ⟨w2.heap.size, 0, none⟩) 2 2 w3).mono ?_
      rintro e w4 ⟨rfl, hb4⟩
      have hE4 := hE3.later hb4
      have hb14 := (hb12.trans (hb3.mono hb12.size)).trans (hb4.mono (Nat.le_trans hb12.size hb3.size))
      clear hb12 hb3 hb4 hE3
      go_wp2_with fail
      refine (r31tag_bits d hd k (by omega) w4 w2.heap.size 2 (by omega) (by omega) hE4).mono ?_
      rintro e w5 ⟨rfl, hb5⟩
      have hb15 := hb14.trans (hb5.mono hb14.size)
      obtain ⟨H, hH⟩ : ∃ H, H = tagged bitsTag (bitsText d k) := ⟨_, rfl⟩
      have hHl : H.length = 32 := by rw [hH]; exact tagged_length _ _
      rw [← hH]
      have HH := Lib.hid hH
      clear hb14 hb5 hE4 hH
      go_upto_region 8 with (refine store_dig_new rfl _ _ rfl w5 _ _ H hHl rfl rfl rfl ?_)
      have bh6 : Blk (w5.alloc (.cells (dig H) 23)) w5.heap.size 23 (dig H) := Blk.new _ _ _
      have hb16 : Below wr.heap.size wr (w5.alloc (.cells (dig H) 23)) := hb15.alloc hb15.size _
      have hw5 : wr.heap.size ≤ w5.heap.size := hb15.size
      generalize w5.alloc (.cells (dig H) 23) = w6 at bh6 hb16 ⊢
      have HO6 := Lib.hid (IOwn.below HO.out hb16)
      have HB6 := Lib.hid (HB.out.trans (hb16.mono hzr))
      have hz6 := hb16.size
      obtain ⟨gh, hgh⟩ : ∃ gh, gh = w5.heap.size := ⟨_, rfl⟩
      rw [← hgh] at bh6 hw5 ⊢
      have hgl := bh6.lt
      have hgz : w.heap.size + 1 ≤ gh := by omega
      have hown0 : ∀ g, (Value.slice A (256 * k) c).ownBlock = some g → g < wr.heap.size := fun g e => (World.ownsRow.lt HO.out g e).2
      have HOW := Lib.hid hown0
      clear hb15 hb16 hgh hown0
      go_wp2_with fail
      go_loopw [6, 9] (fun v ii wr => ∃ i m : Nat, i ≤ 256 ∧ ii = .int .i64 i ∧ m = 256 * k + i ∧ m ≤ n ∧ IOwn wr (w.heap.size + 1) v (bitsL d m) ∧ (∀ g, v.ownBlock = some g → g ≠ gh) ∧ Below (w.heap.size + 1) w0 wr ∧ Blk wr gh 23 (dig H) ∧ w.heap.size + 1 ≤ wr.heap.size) (fun _ ii _ => 256 - (intOf ii).toNat)
      case atStart => exact ⟨0, 256 * k, by omega, rfl, by omega, by omega, HO6.out, fun g e => by have := HOW.out g e; omega, HB6.out, bh6, by omega⟩
      case round =>
        clear HO6 HB6 bh6
        obtain ⟨i, m, hi, rfl, hmi, hmn2, hO, hne, hB, hD, hzr2⟩ := hrel
        obtain ⟨A2, c2, rfl, hmc2, hcm2, -⟩ := hO.shape
        rw [bitsL_length] at hmc2
        rw [bitsL_length] at hO hne
        have HO2 := Lib.hid hO
        have HNE := Lib.hid hne
        have HB2 := Lib.hid hB
        have HD2 := Lib.hid hD
        have HLM := Lib.hid (bitsL_length d m)
        rw [bitsL_length]
        clear hO hne hB hD
        by_cases c1 : i < 256 ∧ m < n
        · obtain ⟨c1a, c1b⟩ := c1
          have d1 : decide ((i : Int) < 256) = true := decide_eq_true (by omega)
          have d2 : decide ((m : Int) < (n : Int)) = true := decide_eq_true (by omega)
          obtain ⟨q, hq⟩ : ∃ q, q = i / 8 := ⟨_, rfl⟩
          obtain ⟨r, hr⟩ : ∃ r, r = i % 8 := ⟨_, rfl⟩
          have q1 : (i : Int) / 8 = (q : Int) := by omega
          have r1 : (i : Int) % 8 = (r : Int) := by omega
          have q32 : q < 32 := by omega
          have r8 : r < 8 := by omega
          obtain ⟨Y, hY⟩ : ∃ Y : Nat, Y = (H.getD q 0).toNat := ⟨_, rfl⟩
          have hY2 : Y < 256 := by rw [hY]; exact (H.getD q 0).toNat_lt
          have ck : wr.cell? ⟨gh, q, none⟩ = some (.int .u8 (Y : Int)) := by rw [HD2.out.cell, dig_get H q (by omega), hY]; rfl
          have HX := Lib.hid (show bitAt d m = ((Y / 2 ^ r % 2 : Nat) : Int) by
            rw [bitAt, show m / 256 = k by omega, show m % 256 / 8 = q by omega, show m % 8 = r by omega, ← HH.out, hY])
          have hwy : wrap64 (Y : Int) = (Y : Int) := wrap_byte Y hY2
          clear hq hr hY
          go_upto_region 13 with fail
          go_loop [10, 11] (fun bv ss => ∃ t : Nat, t ≤ r ∧ ss = .int .i64 t ∧ bv = .int .i64 ((Y / 2 ^ t : Nat) : Int)) (fun _ ss => r - (intOf ss).toNat)
          case atStart => exact ⟨0, by omega, rfl, by rw [hwy, Nat.pow_zero, Nat.div_one]⟩
          case round =>
            obtain ⟨t, ht, rfl, rfl⟩ := hrel
            obtain ⟨Z, hZ⟩ : ∃ Z : Nat, Z = Y / 2 ^ t := ⟨_, rfl⟩
            rw [← hZ]
            have HZ := Lib.hid hZ
            clear hZ
            by_cases htr : t < r
            · have d3 : decide ((t : Int) < (r : Int)) = true := decide_eq_true (by omega)
              have hzy : Z ≤ Y := by rw [HZ.out]; exact Nat.div_le_self _ _
              have hw2 : wrap64 ((Z : Int) / 2) = ((Z / 2 : Nat) : Int) := wrap_half Z (Nat.lt_of_le_of_lt hzy hY2)
              go_wp2_with fail
              exact ⟨⟨t + 1, by omega, by go_num, by rw [Nat.pow_succ, ← Nat.div_div_eq_div_mul, ← HZ.out, hw2]⟩, by simp [intOf]; omega⟩
            · obtain rfl : t = r := by omega
              have d3 : decide ((t : Int) < (t : Int)) = false := decide_eq_false (by omega)
              have HO3 := Lib.hid (IOwn.alloc HO2.out (.cells #[.int .i64 ((Z : Int) % 2)] 3))
              have hlm : (bitsL d m).length + 1 ≤ 1000000000000 := by rw [bitsL_length]; omega
              have hbz : w.heap.size + 1 ≤ (wr.alloc (.cells #[.int .i64 ((Z : Int) % 2)] 3)).heap.size := by simp only [World.size_alloc]; omega
              go_wp2_with (at_builtin; refine app_int rfl _ _ rfl (w.heap.size + 1) (.slice A2 m c2) (bitsL d m) rfl HO3.out ((Z : Int) % 2) (Blk.new _ _ _) rfl hlm hbz ?_; intro v7 w7 hown7 hg7)
              go_roundw
              case rel =>
                have hg0 := hg7.alloc_first
                have hz0 := hD2z HD2.out
                refine ⟨i + 1, m + 1, by omega, by go_num, by omega, by omega, ?_, fun g e => ?_, HB2.out.trans (hg0.below hzr2 fun g e => (World.ownsRow.lt HO2.out g e).1), HD2.out.grown hg0.1 (fun e => HNE.out gh e.symm rfl), Nat.le_trans hzr2 hg0.1.size⟩
                · rw [bitsL_succ, HX.out, ← HZ.out]
                  exact hown7
                · rcases own_new hg0 g e with h | h
                  · exact HNE.out g h
                  · omega
              case measure => simp [intOf]; omega
        · rcases Nat.lt_or_ge i 256 with h1 | h1
          · have hmn3 : m = n := by omega
            have d1 : decide ((i : Int) < 256) = true := decide_eq_true (by omega)
            have d2 : decide ((m : Int) < (n : Int)) = false := decide_eq_false (by omega)
            have HMN := Lib.hid hmn3
            clear hmn3
            go_wp2_with fail
            go_roundw
            case rel => exact ⟨k + 1, m, by omega, by go_num, .inr HMN.out, hmn2, HO2.out, HB2.out, hzr2⟩
            case measure => simp [intOf]; omega
          · have d1 : decide ((i : Int) < 256) = false := decide_eq_false (by omega)
            go_wp2_with (refine wpList_skip (by rfl) ?_)
            go_roundw
            case rel => exact ⟨k + 1, m, by omega, by go_num, .inl (by omega), hmn2, HO2.out, HB2.out, hzr2⟩
            case measure => simp [intOf]; omega
    · obtain rfl : m = n := by omega
      go_wp2_with fail
      go_ret2
      exact ⟨A, c, rfl, hmc, hcm, hO.rd hlen, hb0.trans (hB.mono (by omega))⟩
set_option maxRecDepth 100000 in
set_option linter.unusedSimpArgs false in
set_option maxHeartbeats 2000000 in
theorem r31Bits_bad (d : List UInt8) (n : Int) (h : n < 0 ∨ 4096 < n) (w : World) : Calls Tryd.prog 55 #[.agg (dig d), .int .i64 n] w (Ret (.tuple #[.slice none 0 0, .int .i64 1]) w) := by
  by_cases t1 : n < 0
  · have g1 : decide (n < 0) = true := decide_eq_true t1
    clear h
    go_enter Tryd.func55, Tryd.ntmps55
    go_wp2_with (refine wpList_skip (by rfl) ?_)
    go_ret2
    exact ⟨rfl, (Below.refl _ w).alloc (Nat.le_refl _) _⟩
  · have g1 : decide (n < 0) = false := decide_eq_false t1
    have g2 : decide (4096 < n) = true := decide_eq_true (by omega)
    clear h
    go_enter Tryd.func55, Tryd.ntmps55
    go_wp2_with fail
    go_ret2
    exact ⟨rfl, (Below.refl _ w).alloc (Nat.le_refl _) _⟩
end Go.Proofs.YtibnikokgbfcdaaDoor

/- The law podiumlaw31.BeaconIdle: for all pledges and reveals she returns true. -/
import Derived.Test.YtibnikokgbfcdaaDoorB10
import Derived.Test.YtibnikokgbfcdaaDoorBF
import Derived.Test.YtibnikokgbfcdaaDoorBO
import Derived.Test.YtibnikokgbfcdaaDoorRC
import Derived.Test.YtibnikokgbfcdaaDoorC4
namespace Go.Proofs.YtibnikokgbfcdaaDoor
open Go Go.RowKit

theorem Dg32.of {w : World} {B : Nat} {A : Option Addr} {l m : List Pd} (h : PRd w B A l) (hm : ∀ x ∈ m, x ∈ l) : Dg32 m := fun x hx => h.len (hm x hx)
theorem rangeAt_of_dig {w : World} {g : Nat} {t : TypeId} {d : List UInt8} (h : Blk w g t (dig d)) : w.rangeAt g 0 (dig d).toList := fun j v hv => by
  rw [Nat.zero_add, h.cell]
  simpa using hv
/-- What the outer loop has laid, and the inner one. -/
def IdRel (w4 : World) (l r : List Pd) (k : Nat) (lv ii : Value) (wr : World) : Prop :=
  ∃ t : Nat, t ≤ k ∧ ii = .int .i64 t ∧ POwn 69 wr w4.heap.size lv (openTo l r t) ∧ Below w4.heap.size w4 wr
def IdIn (w4 : World) (l r : List Pd) (n t : Nat) (G : Nat) (x : Pd) (lv jj : Value) (wr : World) : Prop :=
  ∃ u : Nat, u ≤ n ∧ jj = .int .i64 u ∧ POwn 69 wr w4.heap.size lv (openTo l r t ++ repTo l u x) ∧ some G ≠ lv.ownBlock ∧ Blk wr G 69 x.cells.toArray ∧ Below w4.heap.size w4 wr
set_option maxRecDepth 100000 in
set_option linter.unusedSimpArgs false in
set_option linter.unusedVariables false in
set_option maxHeartbeats 8000000 in
theorem idle_good (A B : Option Addr) (l r : List Pd) (n c k c2 : Nat) (hn : n = l.length) (hk : k = r.length) (hil : PdInts l) (hir : PdInts r) (w : World) (hL : Laid w) (hA : PRd w w.heap.size A l) (hB : PRd w w.heap.size B r) (hf : inForm l) (hg : inForm r) :
    Calls Tryd.prog 19 #[.slice A n c, .slice B k c2] w (Ret (.bool true) w) := by
  have hn24 := hf.length
  have hk24 := hg.length
  rw [← hn] at hn24
  rw [← hk] at hk24
  have HS := Lib.hid (fun W h => sane31_ok W h)
  have HL := Lib.hid hL
  have HV := Lib.hid (fun W (hb : Below w.heap.size w W) => bValue_good A B l r n c k c2 hn hk (by omega) hil hir W (HL.out.below hb) ((hA.below hb).more hb.size) ((hB.below hb).more hb.size) hf hg)
  have HVO := Lib.hid (fun W (hb : Below w.heap.size w W) AO co (hO : PRd W W.heap.size AO (openers l r)) => bValue_good A AO l (openers l r) n c (openers l r).length co hn rfl (Nat.le_trans (List.length_filter_le _ _) (by omega)) hil (fun x hx => hir x (List.mem_filter.1 hx).1) W (HL.out.below hb) ((hA.below hb).more hb.size) hO hf (openers_form hg))
  have HFO := Lib.hid (fun W (hb : Below w.heap.size w W) => formed31_any A B l r n c k c2 hn hk hil hir W ((hA.below hb).more hb.size) ((hB.below hb).more hb.size))
  rw [formB_true.2 hf, formB_true.2 hg, Bool.and_true] at HFO
  have H32 := Lib.hid (Dg32.of hB (m := r) (fun x h => h))
  have HA := Lib.hid hA
  have HB := Lib.hid hB
  have HN := Lib.hid hn
  have HK := Lib.hid hk
  have HF := Lib.hid hf
  have HG := Lib.hid hg
  clear hL hA hB hn hk hil hir hf hg
  go_enter Tryd.func19, Tryd.ntmps19
  go_wp2_with fail
  refine (HS.out w HL.out).mono ?_
  rintro e w1 ⟨rfl, hb1⟩
  go_wp2_with fail
  refine (HFO.out w1 hb1).mono ?_
  rintro e w4 ⟨rfl, hb4⟩
  have HB4 := Lib.hid (hb1.trans (hb4.mono hb1.size))
  clear hb1 hb4 HFO HS
  go_wp2_with fail
  go_loopw [5, 24] (fun lv ii wr => IdRel w4 l r k lv ii wr) (fun _ ii _ => k - (intOf ii).toNat)
  case atStart => exact ⟨0, by omega, rfl, by rw [openTo_zero]; exact POwn.nil _ _ _, Below.refl _ _⟩
  case round =>
    obtain ⟨t, ht, rfl, hO, hBr⟩ := hrel
    have hBw := HB4.out.trans (hBr.mono HB4.out.size)
    by_cases hlt : t < k
    · obtain ⟨b3, off3, rfl, hbl3, hx3⟩ := (HB.out.below hBw).at_ (k := t) (by rw [← HK.out]; exact hlt)
      obtain ⟨x, hxx⟩ : ∃ x, x = r.getD t pd0 := ⟨_, rfl⟩
      have HOS := Lib.hid (show openTo l r (t + 1) = openTo l r t ++ repTo l l.length x by rw [hxx]; exact openTo_succ HF.out (by rw [← HK.out]; exact hlt))
      have hxr : 0 ≤ x.party ∧ x.party < 24 := by rw [hxx]; exact ⟨(HG.out t (by rw [← HK.out]; exact hlt)).1, (HG.out t (by rw [← HK.out]; exact hlt)).2.1⟩
      have hOl := openTo_le l r t
      rw [← hxx] at hx3
      have HX3 := Lib.hid hx3
      have hxl : x.dg.length = 32 := hx3.1
      have HO := Lib.hid hO
      have HBR := Lib.hid hBr
      have HBW := Lib.hid hBw
      clear hxx hx3 hO hBr hBw
      go_upto_region 9 with (first
        | (refine load_pd revealType revealInfo rfl _ rfl b3 (off3 + t * 33) x HX3.out rfl ?_)
        | (refine store_pd revealInfo rfl _ _ rfl (Blk.new' wr 69 _ rfl) x hxl rfl rfl rfl ?_; intro w5 bx5 hO5 hz5
           have hb5 : Below wr.heap.size wr w5 := ((Below.refl _ wr).alloc (Nat.le_refl _) _).trans (hO5.toBelow (by simp) (Nat.le_refl _))))
      obtain ⟨G5, hG5⟩ : ∃ G, G = wr.heap.size := ⟨_, rfl⟩
      have HOW := Lib.hid (show some G5 ≠ u5.ownBlock from fun e => by have := (World.ownsRow.lt HO.out _ e.symm).2; omega)
      rw [← hG5] at bx5 ⊢
      have HB5 := Lib.hid (HBR.out.trans (hb5.mono HBR.out.size))
      have HO5 := Lib.hid (POwn.below HO.out hb5)
      have hg54 : w4.heap.size ≤ G5 := by rw [hG5]; exact HBR.out.size
      have HX5 := Lib.hid bx5
      clear hO5 hz5 hb5 bx5 hG5 HO HBR HBW
      go_wp2_with fail
      go_loopw [5, 30] (fun lv jj wr' => IdIn w4 l r n t G5 x lv jj wr') (fun _ jj _ => n - (intOf jj).toNat)
      case atStart => exact ⟨0, by omega, rfl, by rw [repTo_zero, List.append_nil]; exact HO5.out, HOW.out, HX5.out, HB5.out⟩
      case round =>
        clear HO5 HOW HX5 HB5
        obtain ⟨u, hu, rfl, hO, hne, hX, hBr⟩ := hrel
        have hBw := HB4.out.trans (hBr.mono HB4.out.size)
        by_cases hlu : u < n
        · obtain ⟨bb, off, rfl, hbl, hp0⟩ := (HA.out.below hBw).at_ (k := u) (by rw [← HN.out]; exact hlu)
          obtain ⟨p, hpp⟩ : ∃ p, p = l.getD u pd0 := ⟨_, rfl⟩
          have HRS := Lib.hid (show openTo l r t ++ repTo l (u + 1) x = (openTo l r t ++ repTo l u x) ++ if opensP p x then [x] else [] by rw [hpp, repTo_succ (by rw [← HN.out]; exact hlu), List.append_assoc])
          have hrl := repTo_le l u x
          rw [← hpp] at hp0
          have HP0 := Lib.hid hp0
          have hpl : p.dg.length = 32 := hp0.1
          have HO := Lib.hid hO
          have HNE := Lib.hid hne
          have HX := Lib.hid hX
          have HBR := Lib.hid hBr
          have HBW := Lib.hid hBw
          clear hpp hp0 hO hne hX hBr hBw
          go_upto_region 12 with (first
            | (refine load_pd pledgeType pledgeInfo rfl _ rfl bb (off + u * 33) p HP0.out rfl ?_)
            | (refine store_pd pledgeInfo rfl _ _ rfl (Blk.new' wr 61 _ rfl) p hpl rfl rfl rfl ?_; intro w6 bp6 hO6 hz6
               have hb6 : Below wr.heap.size wr w6 := ((Below.refl _ wr).alloc (Nat.le_refl _) _).trans (hO6.toBelow (by simp) (Nat.le_refl _))))
          have HP6 := Lib.hid bp6
          have HB6 := Lib.hid hb6
          have HX6 := Lib.hid (HX.out.below hb6 HX.out.lt)
          clear hO6 hz6 hb6 bp6
          go_wp2_with (first
            | (refine load_pd pledgeType pledgeInfo rfl _ rfl wr.heap.size 0 p ⟨hpl, rangeAt_of_blk_toArray HP6.out⟩ rfl ?_)
            | (refine load_pd revealType revealInfo rfl _ rfl G5 0 x ⟨hxl, rangeAt_of_blk_toArray HX6.out⟩ rfl ?_))
          refine (r31Opens_any p x hpl hxl hxr w6).mono ?_
          rintro e w7 ⟨rfl, hb7⟩
          have hb67 := HB6.out.trans (hb7.mono HB6.out.size)
          have HX7 := Lib.hid (HX6.out.below hb7 HX6.out.lt)
          have HO7 := Lib.hid (POwn.below HO.out hb67)
          have HB7 := Lib.hid (HBR.out.trans (hb67.mono HBR.out.size))
          have hz7 : w4.heap.size ≤ w7.heap.size := Nat.le_trans HBR.out.size hb67.size
          have HLO := Lib.hid (fun g e => (World.ownsRow.lt HO.out g e))
          clear hb7 hb67 HX6 HB6 HP6 HX HO HBR HBW
          obtain ⟨ob, hob⟩ : ∃ ob, ob = opensP p x := ⟨_, rfl⟩
          rw [← hob] at HRS ⊢
          clear hob
          cases ob with
          | true =>
            obtain ⟨L, hLL⟩ : ∃ L, L = openTo l r t ++ repTo l u x := ⟨_, rfl⟩
            have hLn : L.length + 1 ≤ 1000000 := by rw [hLL, List.length_append]; omega
            rw [← hLL] at HRS HO7
            have HOA := Lib.hid (POwn.alloc HO7.out (.cells x.cells.toArray 69))
            have hbs : w4.heap.size ≤ (w7.alloc (.cells x.cells.toArray 69)).heap.size := by simp only [World.size_alloc]; omega
            clear hLL
            go_wp2_with (first
              | (refine load_pd revealType revealInfo rfl _ rfl G5 0 x ⟨hxl, rangeAt_of_blk_toArray HX7.out⟩ rfl ?_)
              | (refine bslr1 rfl _ rfl x hxl rfl ?_)
              | (at_builtin; refine app_pd Tryd.underlying59 revealI_all rfl _ _ rfl w4.heap.size u5 L rfl HOA.out x hxl (Blk.new _ _ _) rfl hLn hbs ?_; intro v8 w8 hown8 hg8))
            have hg0 := hg8.alloc_first
            have HO8 := Lib.hid hown8
            have HNE8 := Lib.hid (hg0.ne HX7.out.lt HNE.out)
            have HX8 := Lib.hid (HX7.out.grown hg0.1 HNE.out)
            have HB8 := Lib.hid (HB7.out.trans (hg0.below hz7 fun g e => (HLO.out g e).1))
            clear hown8 hg8 hg0
            go_roundw
            case rel => exact ⟨u + 1, by omega, by go_num, by rw [HRS.out]; exact HO8.out, HNE8.out, HX8.out, HB8.out⟩
            case measure => simp [intOf]; omega
          | false =>
            go_wp2_with fail
            go_roundw
            case rel => exact ⟨u + 1, by omega, by go_num, by rw [HRS.out]; simpa using HO7.out, HNE.out, HX7.out, HB7.out⟩
            case measure => simp [intOf]; omega
        · obtain rfl : u = n := by omega
          rw [HN.out] at hO
          rw [← HOS.out] at hO
          have HO := Lib.hid hO
          have HBR := Lib.hid hBr
          clear hO hBr hne hX hBw
          go_wp2_with fail
          go_roundw
          case rel => exact ⟨t + 1, by omega, by go_num, HO.out, HBR.out⟩
          case measure => simp [intOf]; omega
    · obtain rfl : t = k := by omega
      rw [HK.out, openTo_all] at hO
      obtain ⟨AO, co, rfl, hco, hco2, ro⟩ := hO.shape (fun x hx => H32.out x (List.mem_filter.1 hx).1)
      have HVO2 := Lib.hid (fun W (hb : Below wr.heap.size wr W) => HVO.out W (hBw.trans (hb.mono hBw.size)) AO co ((ro.below hb).more hb.size))
      obtain ⟨q, hq⟩ : ∃ q, q = (openers l r).length := ⟨_, rfl⟩
      rw [← hq] at HVO2 ⊢
      have HBW := Lib.hid hBw
      obtain ⟨V, hV⟩ : ∃ V, V = valueOf l r := ⟨_, rfl⟩
      have hVl : V.length = 32 := by rw [hV]; exact tagged_length _ _
      have HVV := Lib.hid hV
      clear hO hBr hBw ro hq hV hco
      go_wp2_with fail
      refine (HV.out wr HBW.out).mono ?_
      rintro e w5 ⟨M, m, cm, rfl, hm, hmc, hcm, rm5, hb5⟩
      rw [← HVV.out]
      have HM := Lib.hid hm
      clear hm
      go_wp2_with (refine store_dig_new rfl _ _ rfl w5 _ _ V hVl rfl rfl rfl ?_)
      refine calls_gen (fun W => Blk W w5.heap.size 23 (dig V) ∧ Below w5.heap.size w5 W) ⟨Blk.new _ _ _, (Below.refl _ _).alloc (Nat.le_refl _) _⟩ (fun w6 ⟨bv6, hb6⟩ => ?_)
      have rm6 := (Rd.below rm5 hb6).more hb6.size
      have hb56 := hb5.trans (hb6.mono hb5.size)
      refine (HVO2.out w6 hb56).mono ?_
      rintro e w7 ⟨M2, m2, cm2, rfl, hm2, hmc2, hcm2, rm7, hb7⟩
      rw [value_openers HG.out, ← HVV.out]
      rw [missing_openers HG.out] at hm2 rm7
      have rn7 := (Rd.below rm6 hb7).more hb7.size
      have bv7 := bv6.below hb7 bv6.lt
      have hb57 := hb56.trans (hb7.mono hb56.size)
      have HM2 := Lib.hid hm2
      have RM := Lib.hid rn7
      have RM2 := Lib.hid rm7
      have BV7 := Lib.hid bv7
      have HB57 := Lib.hid hb57
      clear hm2 rn7 rm7 rm6 rm5 bv6 bv7 hb57 hb56 hb5 hb6 hb7
      go_wp2_with (first
        | (refine store_dig_new rfl _ _ rfl w7 _ _ V hVl rfl rfl rfl ?_; refine wpl_gen (fun W => Blk W w7.heap.size 23 (dig V) ∧ Below w7.heap.size w7 W) ⟨Blk.new _ _ _, (Below.refl _ _).alloc (Nat.le_refl _) _⟩ ?_; rintro w8 ⟨bw8, hb8⟩; have bv8 := BV7.out.below hb8 BV7.out.lt)
        | (refine load_dig_g (by rfl) _ rfl w5.heap.size 0 rfl V hVl (rangeAt_of_dig bv8) ?_)
        | (refine load_dig_g (by rfl) _ rfl w7.heap.size 0 rfl V hVl (rangeAt_of_dig bw8) ?_)
        | (refine b_eql_g (by rfl) _ _ _ rfl V V hVl hVl rfl rfl true (by simp) ?_))
      have hsm := r31Same_any M M2 (missingOf l r) (missingOf l r) cm cm2 w8 (by rw [← HM.out]; exact (Rd.below RM.out hb8).more hb8.size) (by rw [← HM2.out]; exact (Rd.below RM2.out hb8).more hb8.size) (by have := missingOf_le l r; have := HN.out; omega)
      rw [decide_eq_true rfl] at hsm
      rw [HM.out, HM2.out]
      refine hsm.mono ?_
      rintro e w9 ⟨rfl, hb9⟩
      have hB9 := ((HBW.out.trans (HB57.out.mono HBW.out.size)).trans (hb8.mono (Nat.le_trans HBW.out.size HB57.out.size))).trans (hb9.mono (Nat.le_trans (Nat.le_trans HBW.out.size HB57.out.size) hb8.size))
      go_wp2_with fail
      go_ret
      exact ⟨rfl, hB9⟩
set_option maxRecDepth 100000 in
set_option linter.unusedSimpArgs false in
set_option linter.unusedVariables false in
set_option maxHeartbeats 4000000 in
theorem idle_bad (A B : Option Addr) (l r : List Pd) (n c k c2 : Nat) (hn : n = l.length) (hk : k = r.length) (hil : PdInts l) (hir : PdInts r) (w : World) (hL : Laid w) (hA : PRd w w.heap.size A l) (hB : PRd w w.heap.size B r) (hf : ¬ (inForm l ∧ inForm r)) :
    Calls Tryd.prog 19 #[.slice A n c, .slice B k c2] w (Ret (.bool true) w) := by
  have hfb : (formB l && formB r) = false := by
    cases h1 : formB l <;> cases h2 : formB r <;> simp_all [formB_true]
  have HS := Lib.hid (fun W h => sane31_ok W h)
  have HL := Lib.hid hL
  have HFO := Lib.hid (fun W (hb : Below w.heap.size w W) => formed31_any A B l r n c k c2 hn hk hil hir W ((hA.below hb).more hb.size) ((hB.below hb).more hb.size))
  rw [hfb] at HFO
  clear hL hA hB hn hk hil hir hf hfb
  go_enter Tryd.func19, Tryd.ntmps19
  go_wp2_with fail
  refine (HS.out w HL.out).mono ?_
  rintro e w1 ⟨rfl, hb1⟩
  go_wp2_with fail
  refine (HFO.out w1 hb1).mono ?_
  rintro e w4 ⟨rfl, hb4⟩
  go_wp2_with fail
  go_ret
  exact ⟨rfl, hb1.trans (hb4.mono hb1.size)⟩
set_option linter.unusedVariables false in
theorem beaconIdle_any (A : Option Addr) (l : List Pd) (c : Nat) (hc : l.length ≤ c) (hcc : c ≤ 9223372036854775807) (hil : PdInts l) (B : Option Addr) (r : List Pd) (c2 : Nat) (hc2 : r.length ≤ c2) (hcc2 : c2 ≤ 9223372036854775807) (hir : PdInts r) (w : World) (hL : Laid w) (hA : PRd w w.heap.size A l) (hB : PRd w w.heap.size B r) :
    Calls Tryd.prog 19 #[.slice A l.length c, .slice B r.length c2] w (Ret (.bool true) w) := by
  by_cases h : inForm l ∧ inForm r
  · exact idle_good A B l r l.length c r.length c2 rfl rfl hil hir w hL hA hB h.1 h.2
  · exact idle_bad A B l r l.length c r.length c2 rfl rfl hil hir w hL hA hB h
end Go.Proofs.YtibnikokgbfcdaaDoor

/- The law podiumlaw55.SampleStrataSpec: for all digests, sizes and numbers she returns true. -/
import Derived.Test.YtibnikokgbfcdaaDoorSamp3
namespace Go.Proofs.YtibnikokgbfcdaaDoor
open Go.RowKit

set_option maxRecDepth 100000 in
set_option maxHeartbeats 4000000 in
theorem sampStrata_any (d : List UInt8) (hd : d.length = 32) (AL : Option Addr) (L : List Int) (cL : Nat) (hcL : L.length ≤ cL) (hcL2 : cL ≤ 9223372036854775807) (hIL : IntL L)
    (AK : Option Addr) (K : List Int) (cK : Nat) (hcK : K.length ≤ cK) (hcK2 : cK ≤ 9223372036854775807) (hIK : IntL K) (w : World) (hL : Laid w)
    (hRL : Rd w w.heap.size AL L.length (fun i => .int .i64 (L.getD i 0))) (hRK : Rd w w.heap.size AK K.length (fun i => .int .i64 (K.getD i 0))) :
    Calls Tryd.prog 22 #[.agg (dig d), .slice AL L.length cL, .slice AK K.length cK] w (Ret (.bool true) w) := by
  have HS := Lib.hid (fun W h => sane55_ok W h)
  have hll : L.length ≤ 9223372036854775807 := by omega
  have hlk : K.length ≤ 9223372036854775807 := by omega
  have HF := Lib.hid (fun W h => r55Few_any 0 AL AK L.length K.length cL cK L hll hlk W h)
  have HA := Lib.hid (fun W hW => strata_all d hd AL L cL hll hIL AK K cK hlk hIK W hW)
  have HR := Lib.hid (fun W => rstrata_all d hd AL L cL hll hIL AK K cK hlk hIK W)
  have HL := Lib.hid hL
  have HRL := Lib.hid hRL
  have HRK := Lib.hid hRK
  clear hL hRL hRK
  obtain ⟨m, hm⟩ : ∃ m, m = L.length := ⟨_, rfl⟩
  obtain ⟨n, hn⟩ : ∃ n, n = K.length := ⟨_, rfl⟩
  rw [← hm] at HF HA HR HRL ⊢
  rw [← hn] at HF HA HR HRK ⊢
  have hml : m ≤ 9223372036854775807 := by omega
  have hnl : n ≤ 9223372036854775807 := by omega
  clear hm hn hll hlk hcL hcL2 hcK hcK2
  go_enter Tryd.func22, Tryd.ntmps22
  go_wp2_with fail
  have hD0 : Blk (w.alloc (.cells (dig d) 23)) w.heap.size 23 (dig d) := Blk.new _ _ _
  have hB0 : Below w.heap.size w (w.alloc (.cells (dig d) 23)) := (Below.refl _ w).alloc (Nat.le_refl _) _
  generalize w.alloc (.cells (dig d) 23) = w0 at hD0 hB0 ⊢
  refine (HS.out _ (HL.out.below hB0)).mono ?_
  rintro e w1 ⟨rfl, hb1⟩
  have hD1 := hD0.below hb1 hD0.lt
  have hB1 := hB0.trans (hb1.mono hB0.size)
  clear hD0 hB0 hb1
  go_wp2_with fail
  refine (HF.out _ ((HRL.out.below hB1).more hB1.size)).mono ?_
  rintro e w2 ⟨⟨b, rfl⟩, rfl⟩
  cases b
  · go_wp2_with fail
    go_ret
    exact ⟨rfl, hB1⟩
  · go_wp2_with (refine load_dig rfl _ rfl d hd hD1 rfl ?_)
    refine (HA.out _ (HL.out.below hB1) ((HRL.out.below hB1).more hB1.size) ((HRK.out.below hB1).more hB1.size)).mono ?_
    rintro e w2 ⟨v2, x2, rfl, hv2, hb2⟩
    have hD2 := hD1.below hb2 hD1.lt
    have hB2 := hB1.trans (hb2.mono hB1.size)
    clear hD1 hB1 hb2
    go_wp2_with (refine load_dig rfl _ rfl d hd hD2 rfl ?_)
    refine (HR.out _ ((HRL.out.below hB2).more hB2.size) ((HRK.out.below hB2).more hB2.size)).mono ?_
    rintro e w3 ⟨v3, x3, rfl, hv3, hb3⟩
    have hB3 := hB2.trans (hb3.mono hB2.size)
    obtain ⟨rfl, hsame⟩ := StrataR.same hv2 hv3 hb3
    have HSM := Lib.hid hsame
    clear hD2 hB2 hb3 hv2 hv3 hsame
    go_wp2_with fail
    refine HSM.out.mono ?_
    rintro e w4 ⟨rfl, q, hq⟩
    have hB4 : Below w.heap.size w w4 := by rw [hq]; exact below_drewN hB3 q
    clear hq
    go_wp2_with fail
    go_ret
    exact ⟨rfl, hB4⟩
end Go.Proofs.YtibnikokgbfcdaaDoor

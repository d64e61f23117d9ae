/- The law podiumlaw08.ChainChanged: for all links, places and a link in place of another she returns true. -/
import Derived.Test.YtibnikokgbfcdaaDoorChEq
import Derived.Test.YtibnikokgbfcdaaDoorC15
import Derived.Test.YtibnikokgbfcdaaDoorOpenL
import Derived.IntWalk
namespace Go.Proofs.YtibnikokgbfcdaaDoor
open Go Go.RowKit

set_option maxRecDepth 100000 in
set_option linter.unusedSimpArgs false in
set_option linter.unusedVariables false in
set_option maxHeartbeats 16000000 in
theorem chainChanged_any (A : Option Addr) (l : List Lk) (c : Nat) (hc : l.length ≤ c) (hcc : c ≤ 9223372036854775807) (hd : ∀ x ∈ l, x.data.length ≤ 9223372036854775807) (z : Int) (hz : 0 ≤ z ∧ z < 256) (x : Lk) (D : Option Addr) (dc : Nat) (w : World) (hL : Laid w)
    (hA : LRd w w.heap.size A l) (hX : LkC w x D dc) : Calls Tryd.prog 12 #[.slice A l.length c, .int .u8 z, .agg (x.cells (.slice D x.data.length dc)).toArray] w (Ret (.bool true) w) := by
  obtain ⟨hp, hdc, hdc2, hD⟩ := hX
  obtain ⟨a, rfl⟩ : ∃ a : Nat, z = a := ⟨z.toNat, by omega⟩
  have ha1 : a < 256 := by omega
  clear hz
  have ha0 : 0 ≤ a := Nat.zero_le _
  obtain ⟨CX, hCX⟩ : ∃ c, c = (x.cells (.slice D x.data.length dc)).toArray := ⟨_, rfl⟩
  rw [← hCX]
  obtain ⟨dl, hdl⟩ : ∃ dl, dl = x.data.length := ⟨_, rfl⟩
  rw [← hdl] at hCX hdc
  have HCX := Lib.hid hCX
  have HP := Lib.hid hp
  have HDL := Lib.hid hdl
  have HDC := Lib.hid hdc
  have HDC2 := Lib.hid hdc2
  have HD := Lib.hid hD
  have HS := Lib.hid (fun W h => sane08_ok W h)
  have HL := Lib.hid hL
  have HFA := Lib.hid (fun W (hb : Below w.heap.size w W) => r8Few_any A l l.length c rfl (by omega) W (hA.later hb) hd)
  obtain ⟨n, hn⟩ : ∃ n, n = l.length := ⟨_, rfl⟩
  have HN := Lib.hid hn
  cases fa : fewLk l with
  | false =>
    rw [fa, ← hn] at HFA
    rw [← hn]
    clear fa
    clear hL hA hD hd hn hdl hc hcc ha0 ha1 hdc hdc2 hp hCX
    go_enter Tryd.func12, Tryd.ntmps12
    go_wp2_with (refine box_agg rfl 52 _ rfl CX rfl ?_; intro W1 hW1; have hX : Blk W1 w.heap.size 52 CX := (by rw [hW1]; exact Blk.new w _ _); have hb0 : Below w.heap.size w W1 := (by rw [hW1]; exact (Below.refl _ w).alloc (Nat.le_refl _) _); clear hW1)
    refine (HS.out W1 (HL.out.below hb0)).mono ?_
    rintro e w1 ⟨rfl, hb1'⟩
    have hb1 := hb0.trans (hb1'.mono hb0.size)
    have hX1 := hX.below hb1' hX.lt
    clear hb0 hX hb1'
    go_wp2_with fail
    refine (HFA.out w1 hb1).mono ?_
    rintro e w1' ⟨rfl, rfl⟩
    go_wp2_with (refine wpList_skip (by rfl) ?_)
    go_ret
    exact ⟨rfl, hb1⟩
  | true =>
    rw [fa, ← hn] at HFA
    obtain ⟨l1, l2⟩ := few_len fa
    rw [← hn] at l1
    have HCA := Lib.hid (fun W (hb : Below w.heap.size w W) => check_any A l n c hn (by omega) (by omega) W (hL.below hb) (hA.later hb) l2)
    have HA := Lib.hid hA
    have HC := Lib.hid (show n ≤ c by omega)
    have HL2 := Lib.hid l2
    have HCC := Lib.hid hcc
    rw [← hn]
    clear fa l2
    by_cases h0 : n = 0
    · have b0 : ((n : Int) == 0) = true := by simp [h0]
      clear hL hA hD hd hn hdl hc hcc ha0 ha1 hdc hdc2 hp hCX
      clear h0
      go_enter Tryd.func12, Tryd.ntmps12
      go_wp2_with (refine box_agg rfl 52 _ rfl CX rfl ?_; intro W1 hW1; have hX : Blk W1 w.heap.size 52 CX := (by rw [hW1]; exact Blk.new w _ _); have hb0 : Below w.heap.size w W1 := (by rw [hW1]; exact (Below.refl _ w).alloc (Nat.le_refl _) _); clear hW1)
      refine (HS.out W1 (HL.out.below hb0)).mono ?_
      rintro e w1 ⟨rfl, hb1'⟩
      have hb1 := hb0.trans (hb1'.mono hb0.size)
      have hX1 := hX.below hb1' hX.lt
      clear hb0 hX hb1'
      go_wp2_with fail
      refine (HFA.out w1 hb1).mono ?_
      rintro e w1' ⟨rfl, rfl⟩
      go_wp2_with (refine wpList_skip (by rfl) ?_)
      go_ret
      exact ⟨rfl, hb1⟩
    have b0 : ((n : Int) == 0) = false := by simp [h0]
    by_cases d3 : 300 < dl
    · have g1 : decide ((300 : Int) < (dl : Int)) = true := decide_eq_true (by omega)
      clear hL hA hD hd hn hdl hc hcc ha0 ha1 hdc hdc2 hp hCX
      go_enter Tryd.func12, Tryd.ntmps12
      go_wp2_with (refine box_agg rfl 52 _ rfl CX rfl ?_; intro W1 hW1; have hX : Blk W1 w.heap.size 52 CX := (by rw [hW1]; exact Blk.new w _ _); have hb0 : Below w.heap.size w W1 := (by rw [hW1]; exact (Below.refl _ w).alloc (Nat.le_refl _) _); clear hW1)
      refine (HS.out W1 (HL.out.below hb0)).mono ?_
      rintro e w1 ⟨rfl, hb1'⟩
      have hb1 := hb0.trans (hb1'.mono hb0.size)
      have hX1 := hX.below hb1' hX.lt
      clear hb0 hX hb1'
      go_wp2_with fail
      refine (HFA.out w1 hb1).mono ?_
      rintro e w1' ⟨rfl, rfl⟩
      have k34 : w1.cell? ⟨w.heap.size, 34, none⟩ = some (.slice D dl dc) := by
        rw [HCX.out] at hX1
        rw [hX1.cell 34, List.getElem?_toArray]
        exact Lk.at_data x _ HP.out
      go_wp2_with (refine wpList_skip (by rfl) ?_)
      go_ret
      exact ⟨rfl, hb1⟩
    have g1 : decide ((300 : Int) < (dl : Int)) = false := decide_eq_false (by omega)
    by_cases t1 : chkOf l = 0
    rotate_left
    · obtain ⟨e1, he1⟩ : ∃ e1, e1 = chkOf l := ⟨_, rfl⟩
      rw [← he1] at HCA t1
      have b1 : (e1 != 0) = true := bne_iff_ne.2 t1
      clear he1
      clear hL hA hD hd hn hdl hc hcc ha0 ha1 hdc hdc2 hp hCX
      go_enter Tryd.func12, Tryd.ntmps12
      go_wp2_with (refine box_agg rfl 52 _ rfl CX rfl ?_; intro W1 hW1; have hX : Blk W1 w.heap.size 52 CX := (by rw [hW1]; exact Blk.new w _ _); have hb0 : Below w.heap.size w W1 := (by rw [hW1]; exact (Below.refl _ w).alloc (Nat.le_refl _) _); clear hW1)
      refine (HS.out W1 (HL.out.below hb0)).mono ?_
      rintro e w1 ⟨rfl, hb1'⟩
      have hb1 := hb0.trans (hb1'.mono hb0.size)
      have hX1 := hX.below hb1' hX.lt
      clear hb0 hX hb1'
      go_wp2_with fail
      refine (HFA.out w1 hb1).mono ?_
      rintro e w1' ⟨rfl, rfl⟩
      have k34 : w1.cell? ⟨w.heap.size, 34, none⟩ = some (.slice D dl dc) := by
        rw [HCX.out] at hX1
        rw [hX1.cell 34, List.getElem?_toArray]
        exact Lk.at_data x _ HP.out
      go_wp2_with (refine wpList_skip (by rfl) ?_)
      refine (HCA.out w1 hb1).mono ?_
      rintro e w2 ⟨rfl, hb2⟩
      have hB2 := hb1.trans (hb2.mono hb1.size)
      have hX2 := hX1.below hb2 hX1.lt
      clear hb1 hb2 hX1 k34
      go_wp2_with (refine wpList_skip (by rfl) ?_)
      go_ret
      exact ⟨rfl, hB2⟩
    rw [t1] at HCA
    have c1 := chkOf_zero t1
    have C1 := Lib.hid c1.2
    have C0 := Lib.hid c1.1
    have hnn : ¬ ((n : Int) = 0) := by omega
    have hwa : wrap64 (a : Int) = (a : Int) := Go.IntWalk.wrap64_in _ (by omega)
    obtain ⟨k, hk⟩ : ∃ k, k = a % n := ⟨_, rfl⟩
    have hkn : k < n := by rw [hk]; exact Nat.mod_lt _ (Nat.pos_of_ne_zero h0)
    have hrem : Int.tmod (wrap64 (a : Int)) (n : Int) = (k : Int) := by rw [hwa, hk]; exact (Int.ofNat_tmod a n).symm
    have hkl : k < l.length := by rw [← hn]; exact hkn
    obtain ⟨y, hy⟩ : ∃ y, y = l.getD k lk0 := ⟨_, rfl⟩
    have hyl : l[k]? = some y := by rw [hy, List.getD_eq_getElem?_getD, List.getElem?_eq_getElem hkl]; rfl
    obtain ⟨b, off, rfl, hbw, hpy, E, ec, hrg, he1, he2, he3⟩ := hA.at_ hyl
    obtain ⟨el, hel⟩ : ∃ el, el = y.data.length := ⟨_, rfl⟩
    rw [← hel] at hrg he1
    have HRG := Lib.hid hrg
    have HBW := Lib.hid hbw
    have HPY := Lib.hid hpy
    have HY := Lib.hid hy
    have HSAME := Lib.hid (fun W (hb : Below w.heap.size w W) => r8SameLink_any y x E D el dl ec dc hel hdl hpy hp W ((he3.below hb).more hb.size) ((Rd.below hD hb).more hb.size))
    have HK := Lib.hid hkn
    clear t1 c1 hwa hkl hy hyl hrg hbw hpy he1 he2 he3 hel hk
    by_cases t2 : y = x
    · rw [(eqLk_iff y x).2 t2] at HSAME
      clear t2
      clear hL hA hD hd hn hdl hc hcc ha0 ha1 hdc hdc2 hp hCX
      go_enter Tryd.func12, Tryd.ntmps12
      go_wp2_with (refine box_agg rfl 52 _ rfl CX rfl ?_; intro W1 hW1; have hX : Blk W1 w.heap.size 52 CX := (by rw [hW1]; exact Blk.new w _ _); have hb0 : Below w.heap.size w W1 := (by rw [hW1]; exact (Below.refl _ w).alloc (Nat.le_refl _) _); clear hW1)
      refine (HS.out W1 (HL.out.below hb0)).mono ?_
      rintro e w1 ⟨rfl, hb1'⟩
      have hb1 := hb0.trans (hb1'.mono hb0.size)
      have hX1 := hX.below hb1' hX.lt
      clear hb0 hX hb1'
      go_wp2_with fail
      refine (HFA.out w1 hb1).mono ?_
      rintro e w1' ⟨rfl, rfl⟩
      have k34 : w1.cell? ⟨w.heap.size, 34, none⟩ = some (.slice D dl dc) := by
        rw [HCX.out] at hX1
        rw [hX1.cell 34, List.getElem?_toArray]
        exact Lk.at_data x _ HP.out
      go_wp2_with (refine wpList_skip (by rfl) ?_)
      refine (HCA.out w1 hb1).mono ?_
      rintro e w2 ⟨rfl, hb2⟩
      have hB2 := hb1.trans (hb2.mono hb1.size)
      have hX2 := hX1.below hb2 hX1.lt
      clear hb1 hb2 hX1 k34
      go_wp2_with fail
      have HXR := Lib.hid (show w2.rangeAt w.heap.size 0 (x.cells (.slice D dl dc)) from rangeAt_of_blk_toArray (by rw [← HCX.out]; exact hX2))
      have HYR := Lib.hid (rangeAt_below HRG.out hB2 HBW.out)
      have HCALL := Lib.hid (fun (i : Ext w2) => HSAME.out i.W (hB2.trans (i.below.mono hB2.size)))
      refine wp_region_quiet_ext (by kernel_rfl) (by kernel_rfl) ?_
      repeat (first
        | (go_big_quiet_want; refine quiet_load_mid 52 _ rfl b (off + k * 35) rfl _ _ (Ext.range HYR.out) Tryd.underlying52 rfl (by rw [y.cells_len _ HPY.out]; exact linkInfo) ?_; simp only [Act.put, List.setIfInBounds_toArray, List.set_cons_zero, List.set_cons_succ]; go_big_quiet_on)
        | (go_big_quiet_want; refine quiet_load_mid 52 _ rfl w.heap.size 0 rfl _ _ (Ext.range HXR.out) Tryd.underlying52 rfl (by rw [x.cells_len _ HP.out]; exact linkInfo) ?_; simp only [Act.put, List.setIfInBounds_toArray, List.set_cons_zero, List.set_cons_succ]; go_big_quiet_on)
        | go_big_quiet_step ((go_at_call 47; exact Ext.call (HCALL.out _))))
      refine wpQuiet_nil ?_
      rintro w3 ⟨⟨_, hWd⟩, rfl⟩
      have hB3 := hB2.trans (hWd.mono hB2.size)
      have hX3 := hX2.below hWd hX2.lt
      clear hWd hB2 hX2
      go_wp2_with fail
      go_ret
      exact ⟨rfl, hB3⟩
    rw [show eqLk y x = false by rw [eqLk_dec, decide_eq_false t2]] at HSAME
    have T2 := Lib.hid t2
    have hds : ∀ j, j < (l.set k x).length → ((l.set k x).getD j lk0).data.length ≤ 4611686018427387903 := fun j hj => by
      rw [List.length_set] at hj
      by_cases hjk : j = k
      · subst hjk
        rw [List.getD_eq_getElem?_getD, List.getElem?_set_self hj]
        show x.data.length ≤ _
        omega
      · rw [List.getD_eq_getElem?_getD, List.getElem?_set_ne (fun e => hjk e.symm), ← List.getD_eq_getElem?_getD]
        exact HL2.out j hj
    have HDS := Lib.hid hds
    clear hds
    clear t2
    clear hL hA hD hd hn hdl hc hcc ha0 ha1 hdc hdc2 hp hCX
    go_enter Tryd.func12, Tryd.ntmps12
    go_wp2_with (refine box_agg rfl 52 _ rfl CX rfl ?_; intro W1 hW1; have hX : Blk W1 w.heap.size 52 CX := (by rw [hW1]; exact Blk.new w _ _); have hb0 : Below w.heap.size w W1 := (by rw [hW1]; exact (Below.refl _ w).alloc (Nat.le_refl _) _); clear hW1)
    refine (HS.out W1 (HL.out.below hb0)).mono ?_
    rintro e w1 ⟨rfl, hb1'⟩
    have hb1 := hb0.trans (hb1'.mono hb0.size)
    have hX1 := hX.below hb1' hX.lt
    clear hb0 hX hb1'
    go_wp2_with fail
    refine (HFA.out w1 hb1).mono ?_
    rintro e w1' ⟨rfl, rfl⟩
    have k34 : w1.cell? ⟨w.heap.size, 34, none⟩ = some (.slice D dl dc) := by
      rw [HCX.out] at hX1
      rw [hX1.cell 34, List.getElem?_toArray]
      exact Lk.at_data x _ HP.out
    go_wp2_with (refine wpList_skip (by rfl) ?_)
    refine (HCA.out w1 hb1).mono ?_
    rintro e w2 ⟨rfl, hb2⟩
    have hB2 := hb1.trans (hb2.mono hb1.size)
    have hX2 := hX1.below hb2 hX1.lt
    clear hb1 hb2 hX1 k34
    go_wp2_with fail
    have HXR := Lib.hid (show w2.rangeAt w.heap.size 0 (x.cells (.slice D dl dc)) from rangeAt_of_blk_toArray (by rw [← HCX.out]; exact hX2))
    have HYR := Lib.hid (rangeAt_below HRG.out hB2 HBW.out)
    have HCALL := Lib.hid (fun (i : Ext w2) => HSAME.out i.W (hB2.trans (i.below.mono hB2.size)))
    refine wp_region_quiet_ext (by kernel_rfl) (by kernel_rfl) ?_
    repeat (first
      | (go_big_quiet_want; refine quiet_load_mid 52 _ rfl b (off + k * 35) rfl _ _ (Ext.range HYR.out) Tryd.underlying52 rfl (by rw [y.cells_len _ HPY.out]; exact linkInfo) ?_; simp only [Act.put, List.setIfInBounds_toArray, List.set_cons_zero, List.set_cons_succ]; go_big_quiet_on)
      | (go_big_quiet_want; refine quiet_load_mid 52 _ rfl w.heap.size 0 rfl _ _ (Ext.range HXR.out) Tryd.underlying52 rfl (by rw [x.cells_len _ HP.out]; exact linkInfo) ?_; simp only [Act.put, List.setIfInBounds_toArray, List.set_cons_zero, List.set_cons_succ]; go_big_quiet_on)
      | go_big_quiet_step ((go_at_call 47; exact Ext.call (HCALL.out _))))
    refine wpQuiet_nil ?_
    rintro w3 ⟨⟨_, hWd⟩, rfl⟩
    have hB3 := hB2.trans (hWd.mono hB2.size)
    have hX3 := hX2.below hWd hX2.lt
    clear hWd hB2 hX2
    have hA3 := HA.out.later hB3
    have hE := own_links_new w3 w3.heap.size (Nat.le_refl _)
    have hbE : Below w3.heap.size w3 (w3.alloc (.cells #[] 52)) := (Below.refl _ _).alloc (Nat.le_refl _) _
    obtain ⟨ps, hps, hld, hsrc⟩ := src_links (c := c) (hA3.below hbE) HN.out
    have HLD := Lib.hid hld
    have HPS := Lib.hid hps
    have HSRC := Lib.hid hsrc
    have HE := Lib.hid hE
    have HBE := Lib.hid hbE
    have HBS := Lib.hid hbE.size
    clear hA3 hE hbE hps hld hsrc
    go_upto_region 9 with (at_builtin; refine app_links rfl _ _ rfl w3.heap.size (.slice (some ⟨w3.heap.size, 0, none⟩) 0 0) 0 [] rfl HE.out (.slice (some ⟨b, off, none⟩) n c) n (lcells ps) rfl HSRC.out (by omega) HBS.out ?_; intro v4 w4 hown4 hg4)
    have hb4 : Below w3.heap.size (w3.alloc (.cells #[] 52)) w4 := hg4.below HBS.out fun k hk => by cases hk; exact Nat.le_refl _
    have hb34 := HBE.out.trans hb4
    have hB4 := hB3.trans (hb34.mono hB3.size)
    have hX4 := hX3.below hb34 hX3.lt
    rw [Nat.zero_add, List.nil_append] at hown4
    have hx4 : Leads w4 w3.heap.size (x, .slice D dl dc) := ⟨HP.out, D, dc, by rw [HDL.out], by rw [← HDL.out]; exact HDC.out, HDC2.out, (HD.out.below hB4).more hB3.size⟩
    obtain ⟨g, c4, rfl, hbg, hnc4, hc4, hth, hset⟩ := own_set (by rw [← List.length_map (f := Prod.fst), HPS.out]; exact HN.out) hown4 (fun p hp => (HLD.out p hp).later hb4 (Nat.le_refl _)) hx4 hb34.size HK.out
    rw [HPS.out] at hset
    have HSET := Lib.hid hset
    have hxr : w4.rangeAt w.heap.size 0 (x.cells (.slice D dl dc)) := rangeAt_of_blk_toArray (by rw [← HCX.out]; exact hX4)
    have HXR4 := Lib.hid hxr
    have HTH := Lib.hid hth
    have HS34 := Lib.hid hb34.size
    have hS03 := hB3.size
    clear hset hxr hth hown4 hx4 hX4 hX3 hb4 hb34 hg4 hB3
    go_upto_region 10 with (first
      | (refine load_link rfl _ rfl x (.slice D dl dc) HP.out rfl HXR4.out ?_)
      | (refine store_link_mid rfl _ _ rfl g (k * 35) x D dl dc HP.out rfl rfl HTH.out ?_))
    obtain ⟨w5, hw5⟩ : ∃ w5, w5 = w4.setCells g (k * 35) (x.cells (.slice D dl dc)) := ⟨_, rfl⟩
    obtain ⟨hb5, hl5⟩ := HSET.out _ hw5
    rw [← hw5]
    have hB5 := hB4.trans (hb5.mono (Nat.le_trans hS03 (Nat.le_refl _)))
    have HL5 := Lib.hid hl5
    have HLEN := Lib.hid (show (l.set k x).length = n by rw [List.length_set, ← HN.out])
    have hCM := fun W (hb : Below w5.heap.size w5 W) => check_any (some ⟨g, 0, none⟩) (l.set k x) n c4 HLEN.out.symm (by omega) (by omega) W (HL.out.below (hB5.trans (hb.mono hB5.size))) (HL5.out.later hb) HDS.out
    have HCM := Lib.hid hCM
    clear hCM hl5 hb5 hw5 hB4
    obtain ⟨e1, he1⟩ : ∃ e1, e1 = chkOf (l.set k x) := ⟨_, rfl⟩
    rw [← he1] at HCM
    have HE1 := Lib.hid he1
    clear he1
    go_wp2_with fail
    refine (HCM.out w5 (Below.refl _ _)).mono ?_
    rintro e w6 ⟨rfl, hb6⟩
    have hB6 := hB5.trans (hb6.mono hB5.size)
    have hl6 := HL5.out.later hb6
    clear hb6 hB5
    by_cases t3 : e1 = 0
    rotate_left
    · have b3 : (e1 != 0) = true := bne_iff_ne.2 t3
      clear t3
      go_wp2_with (refine wpList_skip (by rfl) ?_)
      go_ret
      exact ⟨rfl, hB6⟩
    subst t3
    by_cases t4 : k + 1 = n
    · have b4 : ((k : Int) == (n : Int) - 1) = true := beq_iff_eq.2 (by omega)
      clear t4
      go_wp2_with fail
      go_ret
      exact ⟨rfl, hB6⟩
    have b4 : ((k : Int) == (n : Int) - 1) = false := beq_eq_false_iff_ne.2 (by omega)
    have hw1 : IntKind.i64.wrap ((k : Int) + 1) = (k : Int) + 1 := Go.IntWalk.i64_in _ (by omega)
    have hCO := (chkOf_zero HE1.out.symm).2
    have hk1 : k + 1 < n := by omega
    have hcl : clashOf (l.take (k + 1)) ((l.set k x).take (k + 1)) = true := chain_changed C1.out hCO (by rw [← HN.out]; exact hk1) (by rw [← HY.out]; exact T2.out)
    have HCL := Lib.hid (fun W (hb : Below w6.heap.size w6 W) => clash_any (some ⟨b, off, none⟩) (some ⟨g, 0, none⟩) (l.take (k + 1)) ((l.set k x).take (k + 1)) (k + 1) (k + 1) c c4 (by rw [List.length_take, ← HN.out]; omega) (by rw [List.length_take, HLEN.out]; omega) (by omega) (by omega) (by omega) (by omega)
      (chk_fine (chkOk_take C1.out (k + 1)) (by rw [List.length_take]; omega)) (chk_fine (chkOk_take hCO (k + 1)) (by rw [List.length_take]; omega)) W (HL.out.below (hB6.trans (hb.mono hB6.size))) ((HA.out.later (hB6.trans (hb.mono hB6.size))).take (k + 1)) ((hl6.later hb).take (k + 1)))
    rw [hcl] at HCL
    have hs1 : ∀ W : World, (Instr.slice 43 (.slice (some ⟨b, off, none⟩) n c) none (some (.int .i64 ((k : Int) + 1))) none).run Tryd.prog W = .ok (.slice (some ⟨b, off, none⟩) (k + 1) c) W := fun W => slice_upto_links W (some ⟨b, off, none⟩) n c (k + 1) (by omega) HC.out
    have hs2 : ∀ W : World, (Instr.slice 43 (.slice (some ⟨g, 0, none⟩) n c4) none (some (.int .i64 ((k : Int) + 1))) none).run Tryd.prog W = .ok (.slice (some ⟨g, 0, none⟩) (k + 1) c4) W := fun W => slice_upto_links W (some ⟨g, 0, none⟩) n c4 (k + 1) (by omega) hnc4
    have HCALL6 := Lib.hid (fun (i : Ext w6) => HCL.out i.W i.below)
    clear hcl hCO t4 hl6
    go_wp2_with fail
    refine wp_region_quiet_ext (by kernel_rfl) (by kernel_rfl) ?_
    repeat (go_big_quiet_step ((go_at_call 46; exact Ext.call (HCALL6.out _))))
    refine wpQuiet_nil ?_
    rintro w7 ⟨⟨_, hWd⟩, rfl⟩
    have hB7 := hB6.trans (hWd.mono hB6.size)
    go_wp2_with fail
    go_ret
    exact ⟨rfl, hB7⟩
end Go.Proofs.YtibnikokgbfcdaaDoor

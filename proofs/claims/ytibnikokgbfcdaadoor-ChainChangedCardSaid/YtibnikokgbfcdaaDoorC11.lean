/- Walks: podiumref08.Head, Check. -/
import Derived.Test.YtibnikokgbfcdaaDoorC10
import Derived.Test.YtibnikokgbfcdaaDoorC2
namespace Go.Proofs.YtibnikokgbfcdaaDoor
open Go Go.RowKit

set_option maxRecDepth 100000 in
set_option maxHeartbeats 2000000 in
theorem r8Head_any (A : Option Addr) (l : List Lk) (n c : Nat) (hn : n = l.length) (hn2 : n ≤ 1000000) (hf : ∀ x, l.getLast? = some x → x.fine) (w : World) (hR : LRd w w.heap.size A l) :
    Calls Tryd.prog 79 #[.slice A n c] w (Ret (.agg (dig (headOf l))) w) := by
  have HT := Lib.hid (fun W (h : LRd W W.heap.size A l) => r8Text_any A l n c hn hn2 hf W h)
  have HR := Lib.hid hR
  have HTO := Lib.hid (headOf_text l)
  have HTG : (textOf l).1.length ≤ 4 := by unfold textOf; split <;> exact Nat.le_refl 4
  obtain ⟨tg, htg⟩ : ∃ t, t = (textOf l).1 := ⟨_, rfl⟩
  obtain ⟨tx, htx⟩ : ∃ t, t = (textOf l).2 := ⟨_, rfl⟩
  unfold TextPost at HT
  rw [← htg, ← htx] at HT HTO
  rw [← htg] at HTG
  clear hR hf hn htg htx
  go_enter Tryd.func79, Tryd.ntmps79
  go_wp2_with fail
  have hB0 : Below w.heap.size w (w.alloc (.cells (dig zd) 23)) := (Below.refl _ w).alloc (Nat.le_refl _) _
  refine (HT.out _ ((HR.out.below hB0).more hB0.size)).mono ?_
  rintro e w1 ⟨B, k, c1, rfl, hk, hk2, hr1, hb1⟩
  have hB1 := hB0.trans (hb1.mono hB0.size)
  have hD1 := (Blk.new w 23 (dig zd)).below hb1 (by simp)
  have HTAG := Lib.hid (rtagged_any ⟨tg.toArray⟩ B tx c1 w1 hr1 (by omega) (by show tg.toArray.size ≤ _; simp; omega))
  rw [← hk] at HTAG
  rw [show (⟨tg.toArray⟩ : ByteArray).data.toList = tg from rfl] at HTAG
  clear hb1 hB0 hr1 hk
  go_wp2_with fail
  refine HTAG.out.mono ?_
  rintro e w2 ⟨rfl, hb2⟩
  have hB2 := hB1.trans (hb2.mono hB1.size)
  have hD2 := hD1.below hb2 hD1.lt
  obtain ⟨H, hH⟩ : ∃ H, H = tagged tg tx := ⟨_, rfl⟩
  have hHl : H.length = 32 := by rw [hH]; exact tagged_length _ _
  rw [← hH]
  have HH := Lib.hid hH
  clear hH hb2 hB1 hD1
  go_wp2_with (refine store_dig rfl _ _ rfl hD2 H hHl rfl rfl rfl ?_; intro w8 hD8 hO8 hz8)
  refine bodyPost_ret (results_cell_row rfl _ _ w.heap.size 23 _ (0, 0) _ rfl hD8 Tryd.underlying23 rfl (dig_info _ hHl)) rfl ?_
  rw [HTO.out, ← HH.out]
  exact ⟨rfl, hB2.trans (hO8.toBelow hB2.size (Nat.le_refl _))⟩

set_option maxRecDepth 100000 in
set_option linter.unusedSimpArgs false in
set_option linter.unusedVariables false in
set_option maxHeartbeats 8000000 in
theorem r8Check_any (A : Option Addr) (l : List Lk) (n c : Nat) (hn : n = l.length) (hn2 : n ≤ 9223372036854775807) (hc : n ≤ c) (w : World) (hR : LRd w w.heap.size A l) (hdat : ∀ y, y < l.length → (l.getD y lk0).data.length ≤ 4611686018427387903) :
    Calls Tryd.prog 78 #[.slice A n c] w (Ret (.int .i64 (chkOf l)) w) := by
  have HN := Lib.hid hn
  by_cases h : 1024 < n
  · have hbad : chkOf l = 2 := by rw [chkOf, if_pos (by rw [← hn]; exact h)]
    rw [hbad]
    clear hR hdat hbad hn
    go_enter Tryd.func78, Tryd.ntmps78
    go_wp2
    go_ret
    exact ⟨rfl, Below.refl _ _⟩
  · have HR := Lib.hid hR
    have HDAT := Lib.hid hdat
    clear hR hdat hn
    have hn3 : n ≤ 1024 := by omega
    go_enter Tryd.func78, Tryd.ntmps78
    go_wp2_with fail
    go_loopw [3] (fun i wr => ∃ k : Nat, k ≤ n ∧ i = .int .i64 k ∧ (∀ j, j < k → chkAt l j j) ∧ Below w.heap.size w wr) (fun i _ => n - (intOf i).toNat)
    case atStart => exact ⟨0, by omega, rfl, fun j hj => by omega, Below.refl _ _⟩
    case round =>
      obtain ⟨k, hk, rfl, hall, hB⟩ := hrel
      have HALL := Lib.hid hall
      clear hall
      by_cases hlt : k < n
      · have hRr := HR.out.below hB
        obtain ⟨b, off, V, rfl, hv⟩ := hRr.v (by rw [← HN.out]; omega)
        have hbw := hv.1
        obtain ⟨r1, r2, r3, r4, r5⟩ := hv.2 k (by rw [← HN.out]; exact hlt)
        obtain ⟨-, z2, -⟩ := hv.2 0 (by rw [← HN.out]; omega)
        have hc0 : wr.cell? ⟨b, off, none⟩ = some (.int .i64 (l.getD 0 lk0).node) := by
          have h := z2 0 _ rfl
          rw [Nat.zero_mul] at h
          exact h
        change (l.getD k lk0).prev.length = 32 at r1
        have hchk0 : chkAt l k k ↔ chkAt l k k := Iff.rfl
        obtain ⟨n0, hn0⟩ : ∃ n0, n0 = (l.getD 0 lk0).node := ⟨_, rfl⟩
        obtain ⟨lx, hlx⟩ : ∃ lx, lx = l.getD k lk0 := ⟨_, rfl⟩
        obtain ⟨⟨D, dc⟩, hde⟩ : ∃ p, p = V k := ⟨_, rfl⟩
        rw [← hn0] at hc0
        change wr.rangeAt b (off + k * 35) ((l.getD k lk0).cells (.slice (V k).1 (l.getD k lk0).data.length (V k).2)) at r2
        rw [← hlx, ← hde] at r2
        rw [← hlx] at r1
        have hdl3 := HDAT.out k (by rw [← HN.out]; exact hlt)
        rw [← hlx] at hdl3
        have hchk : chkAt l k k ↔ (lx.node = n0 ∧ 0 ≤ lx.node ∧ lx.node < 24 ∧ lx.no = (k : Nat) ∧ lx.data.length ≤ 65536 ∧ lx.prev = headOf (l.take k)) := by
          rw [hn0, hlx]
          exact Iff.rfl
        have HBAD := Lib.hid (fun (hno : ¬ chkAt l k k) => (show chkOf l = 80 by rw [chkOf, if_neg (by rw [← HN.out]; omega), if_neg (fun h => hno (h k (by rw [← HN.out]; exact hlt)))]))
        have hnx : chkAt l k k → ∀ j, j < k + 1 → chkAt l j j := fun hy j hj => by
          rcases Nat.lt_or_ge j k with e | e
          · exact HALL.out j e
          · obtain rfl : j = k := by omega
            exact hy
        have HNX := Lib.hid hnx
        clear hnx
        have hfine : ∀ y, (l.take k).getLast? = some y → y.fine := chk_fine0 (fun j hj => HALL.out j hj) (by rw [← HN.out]; omega) (by omega)
        have HFINE := Lib.hid hfine
        have HTAKE := Lib.hid (hv.d.take k)
        clear hlx hde hn0 z2 hv hchk0 r3 r4 r5 hfine hRr
        go_upto_region 7 with (first
          | (refine load_link rfl _ rfl lx (.slice D lx.data.length dc) r1 rfl r2 ?_)
          | (refine store_link_new rfl _ _ rfl wr _ _ lx D lx.data.length dc r1 rfl rfl rfl ?_))
        have hX : Blk (wr.alloc (.cells (lx.cells (.slice D lx.data.length dc)).toArray 52)) wr.heap.size 52 (lx.cells (.slice D lx.data.length dc)).toArray := Blk.new _ _ _
        have hB1 : Below wr.heap.size wr (wr.alloc (.cells (lx.cells (.slice D lx.data.length dc)).toArray 52)) := (Below.refl _ wr).alloc (Nat.le_refl _) _
        generalize wr.alloc (.cells (lx.cells (.slice D lx.data.length dc)).toArray 52) = w2 at hX hB1 ⊢
        obtain ⟨g, hg⟩ : ∃ g, g = wr.heap.size := ⟨_, rfl⟩
        rw [← hg] at hX ⊢
        have HB2 := Lib.hid (hB.trans (hB1.mono hB.size))
        have hc0' : w2.cell? ⟨b, off, none⟩ = some (.int .i64 n0) := (hB1.cell (p := ⟨b, off, none⟩) (Nat.lt_of_lt_of_le hbw hB.size)).trans hc0
        have hsz1 := hB1.size
        obtain ⟨nd, no, pv, dat⟩ := lx
        simp only at hchk r1 hdl3
        have hpv : pv.length = 32 := r1
        obtain ⟨dl, hdl⟩ : ∃ dl, dl = dat.length := ⟨_, rfl⟩
        obtain ⟨HD, hhd⟩ : ∃ HD, HD = headOf (l.take k) := ⟨_, rfl⟩
        have hHD : HD.length = 32 := by rw [hhd]; exact headOf_length _
        have hcall : ∀ i : Ext w2, Calls Tryd.prog 79 #[.slice (some ⟨b, off, none⟩) k c] i.W (Ret (.agg (dig HD)) i.W) := fun i => by
          rw [hhd]
          exact r8Head_any (some ⟨b, off, none⟩) (l.take k) k c (by rw [List.length_take, ← HN.out]; omega) (by omega) HFINE.out i.W ((((HTAKE.out.more (by rw [← hg] at hsz1; have := hB.size; omega)).below hB1).more hsz1).below i.below |>.more i.below.size)
        have HH := Lib.hid hcall
        have k0 : ∀ i : Ext w2, i.W.cell? ⟨g, 0, none⟩ = some (.int .i64 nd) := Ext.cell (hX.cell 0)
        have k1 : ∀ i : Ext w2, i.W.cell? ⟨g, 1, none⟩ = some (.int .i64 no) := Ext.cell (hX.cell 1)
        have k34 : ∀ i : Ext w2, i.W.cell? ⟨g, 34, none⟩ = some (.slice D dl dc) := Ext.cell (by
          rw [hX.cell 34, List.getElem?_toArray, hdl]
          exact Lk.at_data ⟨nd, no, pv, dat⟩ _ hpv)
        have kz : ∀ i : Ext w2, i.W.cell? ⟨b, off, none⟩ = some (.int .i64 n0) := Ext.cell hc0'
        have rgP : w2.rangeAt g 2 (dig pv).toList := fun j v hv => by
          have hj : j < 32 := by
            have := (List.getElem?_eq_some_iff.1 hv).1
            simpa [dig_size, hpv] using this
          rw [hX.cell, List.getElem?_toArray, Lk.at_prev ⟨nd, no, pv, dat⟩ _ hpv j hj]
          simpa using hv
        have hslk : ∀ W : World, (Instr.slice 43 (.slice (some ⟨b, off, none⟩) n c) none (some (.int .i64 (k : Int))) none).run Tryd.prog W = .ok (.slice (some ⟨b, off, none⟩) k c) W := fun W => slice_links W b off n c k hk hc
        rw [← hdl, ← hhd] at hchk
        have heqv : ∀ W : World, (Op.equalIn 10000 23 (.agg (dig pv)) (.agg (dig HD))).run Tryd.prog W = .ok (decide (pv = HD)) W := fun W => run_equal_dig pv HD hpv hHD 9998 W
        have HCHK := Lib.hid hchk
        have HEQ := Lib.hid heqv
        have hdl2 : dl ≤ 4611686018427387903 := by rw [hdl]; exact hdl3
        have RGP := Lib.hid rgP
        clear hchk hhd hdl heqv hcall hX hB1 hB hc0 hc0' hsz1 r1 r2 hg hbw
        have rgP := RGP.out
        by_cases t2 : nd < 0
        · have hno : ¬ chkAt l k k := fun h => by have := (HCHK.out.1 h).2.1; omega
          have HNO := Lib.hid hno
          clear hno
          simp only [Act.put]
          refine wp_region_quiet_ext (by kernel_rfl) (by kernel_rfl) ?_
          repeat (first | go_big_quiet_step ((go_at_call 79; exact Ext.call (HH.out _))) | (go_big_quiet_want; refine quiet_load_dig _ rfl g 2 rfl pv hpv (Ext.range rgP) ?_; simp only [Act.put, List.setIfInBounds_toArray, List.set_cons_zero, List.set_cons_succ]; go_big_quiet_on))
          refine wpQuiet_nil ?_
          rintro Wd ⟨⟨_, hWd⟩, rfl⟩
          have hBd := HB2.out.trans (hWd.mono HB2.out.size)
          clear k0 k1 k34 kz hWd
          go_wp2
          go_ret
          exact ⟨(by rw [HBAD.out HNO.out]; first | done | rfl), hBd⟩
        have t2' : decide (nd < 0) = false := decide_eq_false t2
        by_cases t3 : 24 ≤ nd
        · have hno : ¬ chkAt l k k := fun h => by have := (HCHK.out.1 h).2.2.1; omega
          have HNO := Lib.hid hno
          clear hno
          simp only [Act.put]
          refine wp_region_quiet_ext (by kernel_rfl) (by kernel_rfl) ?_
          repeat (first | go_big_quiet_step ((go_at_call 79; exact Ext.call (HH.out _))) | (go_big_quiet_want; refine quiet_load_dig _ rfl g 2 rfl pv hpv (Ext.range rgP) ?_; simp only [Act.put, List.setIfInBounds_toArray, List.set_cons_zero, List.set_cons_succ]; go_big_quiet_on))
          refine wpQuiet_nil ?_
          rintro Wd ⟨⟨_, hWd⟩, rfl⟩
          have hBd := HB2.out.trans (hWd.mono HB2.out.size)
          clear k0 k1 k34 kz hWd
          go_wp2
          go_ret
          exact ⟨(by rw [HBAD.out HNO.out]; first | done | rfl), hBd⟩
        have t3' : decide (24 ≤ nd) = false := decide_eq_false t3
        by_cases t1 : nd = n0
        rotate_left
        · have hb1 : (nd != n0) = true := bne_iff_ne.2 t1
          have hno : ¬ chkAt l k k := fun h => t1 (HCHK.out.1 h).1
          have HNO := Lib.hid hno
          clear hno
          simp only [Act.put]
          refine wp_region_quiet_ext (by kernel_rfl) (by kernel_rfl) ?_
          repeat (first | go_big_quiet_step ((go_at_call 79; exact Ext.call (HH.out _))) | (go_big_quiet_want; refine quiet_load_dig _ rfl g 2 rfl pv hpv (Ext.range rgP) ?_; simp only [Act.put, List.setIfInBounds_toArray, List.set_cons_zero, List.set_cons_succ]; go_big_quiet_on))
          refine wpQuiet_nil ?_
          rintro Wd ⟨⟨_, hWd⟩, rfl⟩
          have hBd := HB2.out.trans (hWd.mono HB2.out.size)
          clear k0 k1 k34 kz hWd
          go_wp2
          go_ret
          exact ⟨(by rw [HBAD.out HNO.out]; first | done | rfl), hBd⟩
        subst t1
        by_cases t4 : no = (k : Int)
        rotate_left
        · have hb4 : (no != (k : Int)) = true := bne_iff_ne.2 t4
          have hno : ¬ chkAt l k k := fun h => t4 (HCHK.out.1 h).2.2.2.1
          have HNO := Lib.hid hno
          clear hno
          simp only [Act.put]
          refine wp_region_quiet_ext (by kernel_rfl) (by kernel_rfl) ?_
          repeat (first | go_big_quiet_step ((go_at_call 79; exact Ext.call (HH.out _))) | (go_big_quiet_want; refine quiet_load_dig _ rfl g 2 rfl pv hpv (Ext.range rgP) ?_; simp only [Act.put, List.setIfInBounds_toArray, List.set_cons_zero, List.set_cons_succ]; go_big_quiet_on))
          refine wpQuiet_nil ?_
          rintro Wd ⟨⟨_, hWd⟩, rfl⟩
          have hBd := HB2.out.trans (hWd.mono HB2.out.size)
          clear k0 k1 k34 kz hWd
          go_wp2
          go_ret
          exact ⟨(by rw [HBAD.out HNO.out]; first | done | rfl), hBd⟩
        subst t4
        by_cases t5 : 65536 < dl
        · have t5i : (65536 : Int) < (dl : Int) := by omega
          have hno : ¬ chkAt l k k := fun h => by have := (HCHK.out.1 h).2.2.2.2.1; omega
          have HNO := Lib.hid hno
          clear hno
          simp only [Act.put]
          refine wp_region_quiet_ext (by kernel_rfl) (by kernel_rfl) ?_
          repeat (first | go_big_quiet_step ((go_at_call 79; exact Ext.call (HH.out _))) | (go_big_quiet_want; refine quiet_load_dig _ rfl g 2 rfl pv hpv (Ext.range rgP) ?_; simp only [Act.put, List.setIfInBounds_toArray, List.set_cons_zero, List.set_cons_succ]; go_big_quiet_on))
          refine wpQuiet_nil ?_
          rintro Wd ⟨⟨_, hWd⟩, rfl⟩
          have hBd := HB2.out.trans (hWd.mono HB2.out.size)
          clear k0 k1 k34 kz hWd
          go_wp2
          go_ret
          exact ⟨(by rw [HBAD.out HNO.out]; first | done | rfl), hBd⟩
        have t5' : decide ((65536 : Int) < (dl : Int)) = false := decide_eq_false (by omega)
        by_cases t6 : pv = HD
        rotate_left
        · have hno : ¬ chkAt l k k := fun h => t6 (HCHK.out.1 h).2.2.2.2.2
          have heq : ∀ W : World, (Op.equalIn 10000 23 (.agg (dig pv)) (.agg (dig HD))).run Tryd.prog W = .ok false W := fun W => by rw [HEQ.out W, decide_eq_false t6]
          have HNO := Lib.hid hno
          clear hno
          simp only [Act.put]
          refine wp_region_quiet_ext (by kernel_rfl) (by kernel_rfl) ?_
          repeat (first | go_big_quiet_step ((go_at_call 79; exact Ext.call (HH.out _))) | (go_big_quiet_want; refine quiet_load_dig _ rfl g 2 rfl pv hpv (Ext.range rgP) ?_; simp only [Act.put, List.setIfInBounds_toArray, List.set_cons_zero, List.set_cons_succ]; go_big_quiet_on))
          refine wpQuiet_nil ?_
          rintro Wd ⟨⟨_, hWd⟩, rfl⟩
          have hBd := HB2.out.trans (hWd.mono HB2.out.size)
          clear k0 k1 k34 kz hWd
          go_wp2
          go_ret
          exact ⟨(by rw [HBAD.out HNO.out]; first | done | rfl), hBd⟩
        have heq : ∀ W : World, (Op.equalIn 10000 23 (.agg (dig pv)) (.agg (dig HD))).run Tryd.prog W = .ok true W := fun W => by rw [HEQ.out W, decide_eq_true t6]
        have HPV := Lib.hid (HCHK.out.2 ⟨rfl, by omega, by omega, rfl, by omega, t6⟩)
        clear t6
        simp only [Act.put]
        refine wp_region_quiet_ext (by kernel_rfl) (by kernel_rfl) ?_
        repeat (first | go_big_quiet_step ((go_at_call 79; exact Ext.call (HH.out _))) | (go_big_quiet_want; refine quiet_load_dig _ rfl g 2 rfl pv hpv (Ext.range rgP) ?_; simp only [Act.put, List.setIfInBounds_toArray, List.set_cons_zero, List.set_cons_succ]; go_big_quiet_on))
        refine wpQuiet_nil ?_
        rintro Wd ⟨⟨_, hWd⟩, rfl⟩
        have hBd := HB2.out.trans (hWd.mono HB2.out.size)
        clear k0 k1 k34 kz hWd
        go_wp2
        go_roundw
        case rel => exact ⟨k + 1, by omega, by go_num, HNX.out HPV.out, hBd⟩
        case measure => simp [intOf]; omega
      · have hok : chkOf l = 0 := by
          rw [chkOf, if_neg (by rw [← HN.out]; omega), if_pos]
          intro j hj
          exact HALL.out j (by rw [← HN.out] at hj; omega)
        have HOK := Lib.hid hok
        clear hok
        go_wp2
        go_ret
        exact ⟨(by rw [HOK.out]; first | done | rfl), hB⟩
end Go.Proofs.YtibnikokgbfcdaaDoor

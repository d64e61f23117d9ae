/- Several texts in one: N56, N60, N61, N62, N64, N65. -/
import Derived.Test.YtkkcbkfpaoldmaaGreatDoorM18
import Derived.Test.YtkkcbkfpaoldmaaGreatDoorM10
import Derived.Test.YtkkcbkfpaoldmaaGreatDoorM15
import Derived.Test.YtkkcbkfpaoldmaaGreatDoorM01
/- Walk: sheets.Agrees of a valid sheet, one criterion and one mark. -/
namespace Go.Proofs.YtkkcbkfpaoldmaaGreatDoor
open Go Go.RowKit Go.Shelf
attribute [local go_sem] Oper.semAt_some

/-- Between the reading and the end. -/
def AgrI (H : Nat) (mk cl d : Int) (A1 A2 Am : Option Addr) (w0 W : World) : Prop :=
  Blk W (H + 1) 4 #[.bool false] ∧ Blk W (H + 2) 32 #[.int .i64 0] ∧ Rd W W.heap.size A1 1 (fun _ => .int .i64 mk) ∧ Rd W W.heap.size A2 1 (fun _ => .int .i64 cl) ∧ Rd W W.heap.size Am 1 (fun _ => .int .i64 d) ∧ Below H w0 W
set_option maxRecDepth 100000 in
set_option linter.unusedSimpArgs false in
theorem between_same (n l m : Int) (h0 : l ≤ n) (h1 : n ≤ m) (w : World) : Calls Tryz.prog 39 #[.int .i64 n, .int .i64 l, .int .i64 m] w (fun e w' => e = .returned (.bool true) ∧ w' = w) := by
  refine (between_ok n l m h0 h1 w).mono ?_
  rintro e w' ⟨rfl, rfl⟩
  exact ⟨rfl, rfl⟩
set_option maxRecDepth 100000 in
set_option linter.unusedSimpArgs false in
set_option linter.unusedVariables false in
set_option maxHeartbeats 8000000 in
theorem shAgrees_ok (x : Crit) (hx : CrOk x.lo x.hi x.st x.ho x.tr) (gc : Nat) (tc : TypeId) (no en ju : Int) (hno : 0 ≤ no ∧ no ≤ 1048576) (hen : 0 ≤ en ∧ en ≤ 4095) (hju : 0 ≤ ju ∧ ju ≤ 255) (Abx Ab : Option Addr) (kb nb cb : Nat) (bx : List Int) (t : Nat) (sm : Bool)
    (hnb : (nb : Int) = marksN x.lo x.hi x.st) (hbx : Bx bx nb t sm) (d : Int) (hd : OnSc x.lo x.hi x.st d) (Am : Option Addr) (cm : Nat) (w0 : World) (hc : Blk w0 gc tc x.c) (hv : Rd w0 w0.heap.size Abx 1 (fun _ => .slice Ab nb cb)) (hb : Rd w0 w0.heap.size Ab nb (fun k => .int .i64 (bx.getD k 0))) (hm : Rd w0 w0.heap.size Am 1 (fun _ => .int .i64 d)) :
    Calls Tryz.prog 12 #[.slice (some ⟨gc, 0, none⟩) 1 1, .agg (sheetC no 0 en ju Abx kb), .slice Am 1 cm] w0 (Ret (.tuple #[.bool (!sm && decide (x.lo + (t : Int) * x.st = d)), .int .i64 0]) w0) := by
  have HRD := Lib.hid (fun W (h : Below w0.heap.size w0 W) => shRead_ok x hx gc tc no en ju hno hen hju Abx Ab kb nb cb bx t sm hnb hbx W (hc.below h hc.lt) ((hv.below h).more h.size) ((hb.below h).more h.size))
  obtain ⟨xs, lo, hi, st, ho, tr, rv⟩ := x
  simp only [Crit.c] at hc
  simp only at hx hnb HRD hd ⊢
  have HC := Lib.hid hc
  have HAM := Lib.hid hm
  have HBT := Lib.hid (fun W => better_ok xs lo hi st ho tr rv hx d hd W)
  have hgc := hc.lt
  have k1 := hx.l0
  have hd0 := hd.1
  obtain ⟨mk, hmk⟩ : ∃ mk, mk = mkOf lo st t sm := ⟨_, rfl⟩
  obtain ⟨cl, hcl⟩ : ∃ cl, cl = clOf sm := ⟨_, rfl⟩
  rw [← hmk, ← hcl] at HRD
  obtain ⟨r, hr⟩ : ∃ r, r = (!sm && decide (lo + (t : Int) * st = d)) := ⟨_, rfl⟩
  rw [← hr]
  have hcase : (mk ≠ d ∧ r = false) ∨ (mk = d ∧ r = true ∧ cl = 0) := by
    cases sm with
    | true =>
      left
      simp only [mkOf, if_true] at hmk
      exact ⟨by omega, by rw [hr]; rfl⟩
    | false =>
      simp only [mkOf, Bool.false_eq_true, if_false] at hmk
      by_cases h : lo + (t : Int) * st = d
      · right
        exact ⟨by rw [hmk]; exact h, by rw [hr, decide_eq_true h]; rfl, by rw [hcl]; rfl⟩
      · left
        exact ⟨by rw [hmk]; exact h, by rw [hr, decide_eq_false h]; rfl⟩
  have HCASE := Lib.hid hcase
  clear hc hv hb hbx hx hnb hmk hcl hm hd hr hcase
  refine (callsIn_wide (n := 5)).1 ?_
  refine callsIn_of_wp_marks Tryz.func12 rfl trivial ?_ rfl
  simp only [Tryz.ntmps12, List.size_toArray, List.length_cons, List.length_nil, Nat.reduceAdd, Nat.reduceSub, Array.replicate_succ, Array.replicate_zero, List.push_toArray, List.append_toArray, List.nil_append, List.cons_append]
  refine wpIn_wide.2 ?_
  go_wp2_with fail
  refine calls_gen (fun W => Blk W (w0.heap.size + 1) 4 #[.bool false] ∧ Blk W (w0.heap.size + 2) 32 #[.int .i64 0] ∧ Below w0.heap.size w0 W)
    ⟨(Blk.new' _ _ _ (by simp)).alloc _, Blk.new' _ _ _ (by simp), (((Below.refl _ w0).alloc (Nat.le_refl _) _).alloc (by simp) _).alloc (by simp; omega) _⟩ (fun W0 ⟨b1, b2, hB0⟩ => ?_)
  refine (HRD.out W0 hB0).mono ?_
  rintro e W1 ⟨A1, A2, c1, c2, rfl, hr1, hr2, hb1⟩
  have hB1 := hB0.trans (hb1.mono hB0.size)
  have d1 := b1.below hb1 b1.lt
  have d2 := b2.below hb1 b2.lt
  obtain ⟨H, hH⟩ : ∃ H, H = w0.heap.size := ⟨_, rfl⟩
  have HH := Lib.hid hH
  have HI1 := Lib.hid (show AgrI H mk cl d A1 A2 Am w0 W1 from ⟨by rw [hH]; exact d1, by rw [hH]; exact d2, hr1, hr2, (HAM.out.below hB1).more hB1.size, by rw [hH]; exact hB1⟩)
  rw [← hH] at d2 ⊢
  have s1 : W1.cell? ⟨H + 2, 0, none⟩ = some (.int .i64 0) := d2.cell 0
  have f1 := d2.frozen 0
  clear b1 b2 hB0 hb1 hH hB1 d1 hr1 hr2 HRD
  go_upto_region 2 with fail
  have HI2 := Lib.hid (show AgrI H mk cl d A1 A2 Am w0 (W1.setCell ⟨H + 2, 0, none⟩ (.int .i64 0)) by
    obtain ⟨i1, i2, i3, i4, i5, i6⟩ := HI1.out
    have hE : Only W1 (W1.setCell ⟨H + 2, 0, none⟩ (.int .i64 0)) (H + 2) := (Only.refl W1 (H + 2)).set (p := ⟨H + 2, 0, none⟩) (.inl rfl) _
    have hsame : ∀ (X : Option Addr) (z : Int), Rd W1 W1.heap.size X 1 (fun _ => .int .i64 z) → Rd (W1.setCell ⟨H + 2, 0, none⟩ (.int .i64 0)) (W1.setCell ⟨H + 2, 0, none⟩ (.int .i64 0)).heap.size X 1 (fun _ => .int .i64 z) := fun X z h hl => by
      obtain ⟨b, off, e, hb, hc⟩ := h hl
      refine ⟨b, off, e, by simpa using hb, fun k hk => ?_⟩
      have h1 := hc k hk
      by_cases he : (⟨b, off + k, none⟩ : Addr) = ⟨H + 2, 0, none⟩
      · rw [he] at h1 ⊢
        rw [i2.cell 0] at h1
        have h2 := (i2.set 0 (.int .i64 0)).cell 0
        exact h2.trans h1
      · exact (World.cell?_setCell_other _ _ _ _ (fun e => he e.symm)).trans h1
    exact ⟨i1.far (p := ⟨H + 2, 0, none⟩) (by show H + 1 ≠ H + 2; omega) _, i2.set 0 _, hsame _ _ i3, hsame _ _ i4, hsame _ _ i5, i6.setCell (p := ⟨H + 2, 0, none⟩) (by show H ≤ H + 2; omega) _⟩)
  generalize W1.setCell ⟨H + 2, 0, none⟩ (.int .i64 0) = W2 at HI2 ⊢
  have s2 : W2.cell? ⟨H + 2, 0, none⟩ = some (.int .i64 0) := HI2.out.2.1.cell 0
  have f2 := HI2.out.2.1.frozen 0
  clear s1 f1 d2 HI1
  go_wp2_with fail
  refine (zipI_any (some ⟨gc, 0, none⟩) Am 1 1 1 cm W2).mono ?_
  rintro e w2 ⟨rfl, hw2⟩
  have hb2 : Below W2.heap.size W2 w2 := by rw [hw2]; exact ((Below.refl _ _).alloc (Nat.le_refl _) _).alloc (by simp) _
  have z1 : Blk w2 W2.heap.size 44 #[.slice (some ⟨gc, 0, none⟩) 1 1] := by rw [hw2]; exact (Blk.new _ _ _).alloc _
  have z2 : Blk w2 (W2.heap.size + 1) 25 #[.slice Am 1 cm] := by rw [hw2]; exact Blk.new' _ _ _ (by simp)
  have hB2w : Below w0.heap.size w0 w2 := by
    have h := HI2.out.2.2.2.2.2
    rw [HH.out] at h
    exact h.trans (hb2.mono h.size)
  have hsH : H + 2 < W2.heap.size := HI2.out.2.1.lt
  have HSEQ := Lib.hid (zipI1_V 4 W2.heap.size (W2.heap.size + 1) gc _ _ tc ⟨xs, lo, hi, st, ho, tr, rv⟩ d Am cm w2 z1 z2 (HC.out.below hB2w hgc) ((HAM.out.below hB2w).more hB2w.size))
  have hz2 : W2.heap.size ≤ w2.heap.size := hb2.size
  have HI0 := Lib.hid (show AgrI H mk cl d A1 A2 Am w0 w2 by
    obtain ⟨i1, i2, i3, i4, i5, i6⟩ := HI2.out
    exact ⟨i1.below hb2 i1.lt, i2.below hb2 i2.lt, (i3.below hb2).more hb2.size, (i4.below hb2).more hb2.size, (i5.below hb2).more hb2.size, i6.trans (hb2.mono (by omega))⟩)
  clear hw2 hb2 z1 z2 hB2w s2 f2 HI2
  have hbear : Bears1 w2.heap.size (AgrI H mk cl d A1 A2 Am w0) := fun A C row ⟨i1, i2, i3, i4, i5, i6⟩ hg hr =>
    ⟨blk_kept i1 hg (fun r e => (hr r e).2), blk_kept i2 hg (fun r e => (hr r e).2), rd_kept i3 hg (fun r e => (hr r e).2), rd_kept i4 hg (fun r e => (hr r e).2), rd_kept i5 hg (fun r e => (hr r e).2), below_kept1 i6 hg (fun r e => (hr r e).1) (by omega) (by have := i2.lt; omega)⟩
  go_wp2_with fail
  refine (wpIn_wide (n := 5)).1 ?_
  refine gen_act fun a0 ha0 => ?_
  have HA0 := Lib.hid ha0
  refine wpIn_range1V rfl (by omega) (gf := 67) (lb := #[.pointer (some ⟨W2.heap.size, 0, none⟩), .pointer (some ⟨W2.heap.size + 1, 0, none⟩)]) (by rw [HA0.out]; rfl) trivial (enters_of Tryz.func67 (by kernel_rfl) rfl) HSEQ.out (Below.refl _ _) rfl
    (AgrI H mk cl d A1 A2 Am w0) (AgrI H mk cl d A1 A2 Am w0) hbear hbear HI0.out
    (fun a' W => ∃ g9, a' = { tmps := (((a0.tmps.setIfInBounds 33 (.agg (critC xs lo hi st ho tr rv))).setIfInBounds 34 (.int .i64 d)).setIfInBounds 10 (.pointer (some ⟨g9, 0, none⟩))).setIfInBounds 11 (.int .i64 d), defers := [] } ∧ Blk W g9 23 (critC xs lo hi st ho tr rv))
    (fun a' X Y row ⟨g9, e, h⟩ hg hr => ⟨g9, e, blk_kept h hg hr⟩) ?assign ?body ?done
  case assign =>
    rintro l W K ⟨i1, i2, i3, i4, i5, i6⟩ hK
    rw [HA0.out]
    simp only [zipEnc, Crit.c, fold2, List.setIfInBounds_toArray, List.set_cons_zero, List.set_cons_succ]
    apply wpIn_seq_k
    intro K2 hK2
    refine wpIn_region_list_of (L := [_, _]) (by kernel_rfl) ?_ ?_
    · intro ho
      obtain ⟨_, _, h⟩ := ho
      exact h
    go_wp2_with (refine store_crit rfl _ _ rfl (Blk.new W 23 _) xs lo hi st ho tr rv rfl rfl rfl ?_; intro w5 bx5 hO hz; have hk5 : Below W.heap.size W w5 := ((Below.refl _ W).alloc (Nat.le_refl _) _).trans (hO.toBelow (by simp) (Nat.le_refl _)); clear hO hz)
    refine wpIn_region_list_of (L := [_]) (by kernel_rfl) ?_ ?_
    · intro ho
      obtain ⟨_, _, h⟩ := ho
      exact h
    go_wp2_with fail
    exact hK _ _ ((keeps_of_below hk5).from _) ⟨i1.below hk5 i1.lt, i2.below hk5 i2.lt, (i3.below hk5).more hk5.size, (i4.below hk5).more hk5.size, (i5.below hk5).more hk5.size, i6.trans (hk5.mono (by have := i2.lt; omega))⟩ ⟨_, by rw [HA0.out]; rfl, bx5⟩
  case body =>
    rintro l a' W hI ⟨g9, rfl, hb9⟩
    rw [HA0.out]
    simp only [List.setIfInBounds_toArray, List.set_cons_zero, List.set_cons_succ]
    have HI := Lib.hid hI
    have q0 : W.cell? ⟨g9, 0, none⟩ = some (.string xs) := hb9.cell 0
    have q1 : W.cell? ⟨g9, 1, none⟩ = some (.int .i64 lo) := hb9.cell 1
    have q2 : W.cell? ⟨g9, 2, none⟩ = some (.int .i64 hi) := hb9.cell 2
    have q3 : W.cell? ⟨g9, 3, none⟩ = some (.int .i64 st) := hb9.cell 3
    have q4 : W.cell? ⟨g9, 4, none⟩ = some (.int .i64 ho) := hb9.cell 4
    have q5 : W.cell? ⟨g9, 5, none⟩ = some (.int .i64 tr) := hb9.cell 5
    have q6 : W.cell? ⟨g9, 6, none⟩ = some (.bool rv) := hb9.cell 6
    clear hI hb9
    gi_wp2_with fail
    refine ⟨trivial, CallsIn.inRound _ (callsIn_wide.2 ((HBT.out W).mono ?_))⟩
    rintro e w3 ⟨rfl, hb3⟩
    clear q0 q1 q2 q3 q4 q5 q6
    gi_wp2_with fail
    obtain ⟨i1, i2, i3, i4, i5, i6⟩ := HI.out
    exact ⟨(keeps_of_below hb3).from _, i1.below hb3 i1.lt, i2.below hb3 i2.lt, (i3.below hb3).more hb3.size, (i4.below hb3).more hb3.size, (i5.below hb3).more hb3.size, i6.trans (hb3.mono (by have := i2.lt; omega))⟩
  case done =>
    rintro D W hD ⟨i1, i2, i3, i4, i5, i6⟩ hK
    rw [HA0.out]
    obtain ⟨bm, om, rfl, _, cm1⟩ := i3.at_ (k := 0) (by omega)
    obtain ⟨bc, oc, rfl, _, cc1⟩ := i4.at_ (k := 0) (by omega)
    obtain ⟨bd, od, rfl, _, cd1⟩ := i5.at_ (k := 0) (by omega)
    simp only [Nat.add_zero] at cm1 cc1 cd1
    have e1 : W.cell? ⟨H + 1, 0, none⟩ = some (.bool false) := i1.cell 0
    have e2 : W.cell? ⟨H + 2, 0, none⟩ = some (.int .i64 0) := i2.cell 0
    have f1 := i1.frozen 0
    have f2 := i2.frozen 0
    have I1 := Lib.hid i1
    have I2 := Lib.hid i2
    have I6 := Lib.hid i6
    have HK := Lib.hid hK
    clear i1 i2 i3 i4 i5 i6 hK
    go_wp2_with fail
    go_loopw [49] (fun i wr => ∃ k : Nat, k ≤ 1 ∧ i = .int .i64 k ∧ (k = 0 → wr = W) ∧ (k = 1 → r = true ∧ ∃ q, wr = W.drewN q)) (fun i _ => 1 - (intOf i).toNat)
    case atStart => exact ⟨0, by omega, rfl, fun _ => rfl, fun h => by omega⟩
    case round =>
      obtain ⟨k, hk, rfl, h0, h1⟩ := hrel
      rcases Nat.eq_zero_or_pos k with rfl | hpos
      · obtain rfl := h0 rfl
        clear h0 h1
        rcases HCASE.out with ⟨hne, hrf⟩ | ⟨rfl, hrt, rfl⟩
        · have g1 : (mk != d) = true := bne_iff_ne.2 hne
          have g2 : (mk == d) = false := beq_eq_false_iff_ne.2 hne
          have X1 := I1
          have X2 := I2
          have X6 := I6
          have XK := HK
          have HRF := Lib.hid hrf
          clear hne hrf
          go_wp2_with fail
          go_quiet (fail)
          have X1 := Lib.hid (show Blk (wr.drewN nq) (H + 1) 4 #[.bool false] from I1.out)
          have X2 := Lib.hid (show Blk (wr.drewN nq) (H + 2) 32 #[.int .i64 0] from I2.out)
          have X6 := Lib.hid (below_drewN I6.out nq)
          have XK := Lib.hid (show (wr.drewN nq).heap[D]? = some (.deferred (some [])) from HK.out)
          have y1 : (wr.drewN nq).cell? ⟨H + 1, 0, none⟩ = some (.bool false) := X1.out.cell 0
          have y2 : (wr.drewN nq).cell? ⟨H + 2, 0, none⟩ = some (.int .i64 0) := X2.out.cell 0
          have z1 := X1.out.frozen 0
          have z2 := X2.out.frozen 0
          generalize wr.drewN nq = V at X1 X2 X6 XK y1 y2 z1 z2 ⊢
          go_wp2_with fail
          have x1 : Blk ((V.setCell ⟨H + 1, 0, none⟩ (.bool false)).setCell ⟨H + 2, 0, none⟩ (.int .i64 0)) (H + 1) 4 #[.bool false] := (X1.out.set 0 (.bool false)).far (p := ⟨H + 2, 0, none⟩) (by show H + 1 ≠ H + 2; omega) _
          have x2 : Blk ((V.setCell ⟨H + 1, 0, none⟩ (.bool false)).setCell ⟨H + 2, 0, none⟩ (.int .i64 0)) (H + 2) 32 #[.int .i64 0] := (X2.out.far (p := ⟨H + 1, 0, none⟩) (by show H + 2 ≠ H + 1; omega) _).set 0 (.int .i64 0)
          have x6 : Below H w0 ((V.setCell ⟨H + 1, 0, none⟩ (.bool false)).setCell ⟨H + 2, 0, none⟩ (.int .i64 0)) := (X6.out.setCell (p := ⟨H + 1, 0, none⟩) (by show H ≤ H + 1; omega) _).setCell (p := ⟨H + 2, 0, none⟩) (by show H ≤ H + 2; omega) _
          have xk := ((KeepsOthers.setCell V ⟨H + 1, 0, none⟩ (.bool false)).trans (KeepsOthers.setCell _ ⟨H + 2, 0, none⟩ (.int .i64 0))).same D _ XK.out rfl
          generalize ((V.setCell ⟨H + 1, 0, none⟩ (.bool false)).setCell ⟨H + 2, 0, none⟩ (.int .i64 0)) = V9 at x1 x2 x6 xk ⊢
          refine ⟨by simp, .inl ⟨_, _, rfl, run_takeDeferred xk, ?_⟩⟩
          have hgp := grownBy_putObj' V9 D (.deferred none)
          have hrr : ∀ r, some D = some r → ∃ o : Obj, V9.heap[r]? = some o ∧ o.isCells = false := fun r e => by cases e; exact ⟨_, xk, rfl⟩
          have hc5 : (V9.putObj D (.deferred none)).cell? ⟨H + 1, 0, none⟩ = some (.bool false) := cell_kept (x1.cell 0) hgp hrr
          have hc6 : (V9.putObj D (.deferred none)).cell? ⟨H + 1 + 1, 0, none⟩ = some (.int .i64 0) := cell_kept (x2.cell 0) hgp hrr
          refine ⟨.tuple #[.bool false, .int .i64 0], ?_, by rw [HRF.out], ?_⟩
          · simp [results, Tryz.f12, go_sem, hc5, hc6]
          · rw [← HH.out]
            exact x6.trans (belowK_b (w := w2) (by omega) V9 D _ _ hD xk rfl rfl)
        · have HRT := Lib.hid hrt
          have HBS := Lib.hid (fun W => between_same 0 0 1 (by omega) (by omega) W)
          have g1 : (mk != mk) = false := by simp
          clear hrt
          go_wp2_with fail
          go_quiet ((go_at_call 39; exact Calls.quiet_of_same (HBS.out _)))
          go_wp2_with fail
          go_roundw
          case rel => exact ⟨1, by omega, by go_num, fun h => by omega, fun _ => ⟨HRT.out, nq, rfl⟩⟩
          case measure => simp [intOf]
      · obtain rfl : k = 1 := by omega
        obtain ⟨hrt, q, rfl⟩ := h1 rfl
        have HRT := Lib.hid hrt
        clear h0 h1 hrt e1 e2 f1 f2 cm1 cc1 cd1
        have X1 := Lib.hid (show Blk (W.drewN q) (H + 1) 4 #[.bool false] from I1.out)
        have X2 := Lib.hid (show Blk (W.drewN q) (H + 2) 32 #[.int .i64 0] from I2.out)
        have X6 := Lib.hid (below_drewN I6.out q)
        have XK := Lib.hid (show (W.drewN q).heap[D]? = some (.deferred (some [])) from HK.out)
        have y1 : (W.drewN q).cell? ⟨H + 1, 0, none⟩ = some (.bool false) := X1.out.cell 0
        have y2 : (W.drewN q).cell? ⟨H + 2, 0, none⟩ = some (.int .i64 0) := X2.out.cell 0
        have z1 := X1.out.frozen 0
        have z2 := X2.out.frozen 0
        generalize W.drewN q = V at X1 X2 X6 XK y1 y2 z1 z2 ⊢
        go_wp2_with fail
        have x1 : Blk ((V.setCell ⟨H + 1, 0, none⟩ (.bool true)).setCell ⟨H + 2, 0, none⟩ (.int .i64 0)) (H + 1) 4 #[.bool true] := (X1.out.set 0 (.bool true)).far (p := ⟨H + 2, 0, none⟩) (by show H + 1 ≠ H + 2; omega) _
        have x2 : Blk ((V.setCell ⟨H + 1, 0, none⟩ (.bool true)).setCell ⟨H + 2, 0, none⟩ (.int .i64 0)) (H + 2) 32 #[.int .i64 0] := (X2.out.far (p := ⟨H + 1, 0, none⟩) (by show H + 2 ≠ H + 1; omega) _).set 0 (.int .i64 0)
        have x6 : Below H w0 ((V.setCell ⟨H + 1, 0, none⟩ (.bool true)).setCell ⟨H + 2, 0, none⟩ (.int .i64 0)) := (X6.out.setCell (p := ⟨H + 1, 0, none⟩) (by show H ≤ H + 1; omega) _).setCell (p := ⟨H + 2, 0, none⟩) (by show H ≤ H + 2; omega) _
        have xk := ((KeepsOthers.setCell V ⟨H + 1, 0, none⟩ (.bool true)).trans (KeepsOthers.setCell _ ⟨H + 2, 0, none⟩ (.int .i64 0))).same D _ XK.out rfl
        generalize ((V.setCell ⟨H + 1, 0, none⟩ (.bool true)).setCell ⟨H + 2, 0, none⟩ (.int .i64 0)) = V9 at x1 x2 x6 xk ⊢
        refine ⟨by simp, .inl ⟨_, _, rfl, run_takeDeferred xk, ?_⟩⟩
        have hgp := grownBy_putObj' V9 D (.deferred none)
        have hrr : ∀ r, some D = some r → ∃ o : Obj, V9.heap[r]? = some o ∧ o.isCells = false := fun r e => by cases e; exact ⟨_, xk, rfl⟩
        have hc5 : (V9.putObj D (.deferred none)).cell? ⟨H + 1, 0, none⟩ = some (.bool true) := cell_kept (x1.cell 0) hgp hrr
        have hc6 : (V9.putObj D (.deferred none)).cell? ⟨H + 1 + 1, 0, none⟩ = some (.int .i64 0) := cell_kept (x2.cell 0) hgp hrr
        refine ⟨.tuple #[.bool true, .int .i64 0], ?_, by rw [HRT.out], ?_⟩
        · simp [results, Tryz.f12, go_sem, hc5, hc6]
        · rw [← HH.out]
          exact x6.trans (belowK_b (w := w2) (by omega) V9 D _ _ hD xk rfl rfl)
end Go.Proofs.YtkkcbkfpaoldmaaGreatDoor

/- Walk: table57; rows of marks in memory. -/
namespace Go.Proofs.YtkkcbkfpaoldmaaGreatDoor
open Go Go.RowKit Go.Shelf
attribute [local go_sem] Oper.semAt_some

/-- Rows of numbers in memory. -/
structure MatRd (w : World) (B : Nat) (A : Option Addr) (n : Nat) (Af : Nat → Option Addr) (Nf Cf : Nat → Nat) (Mf : Nat → Nat → Int) : Prop where
  top : Rd w B A n (fun k => .slice (Af k) (Nf k) (Cf k))
  row : ∀ k, k < n → Rd w B (Af k) (Nf k) (fun j => .int .i64 (Mf k j))
  cap : ∀ k, k < n → Nf k ≤ Cf k ∧ Cf k ≤ 9223372036854775807
theorem MatRd.below {w w' : World} {B : Nat} {A : Option Addr} {n : Nat} {Af : Nat → Option Addr} {Nf Cf : Nat → Nat} {Mf : Nat → Nat → Int} (h : MatRd w B A n Af Nf Cf Mf) (hb : Below B w w') : MatRd w' B A n Af Nf Cf Mf :=
  ⟨h.top.below hb, fun k hk => (h.row k hk).below hb, h.cap⟩
theorem MatRd.more {w : World} {B B' : Nat} {A : Option Addr} {n : Nat} {Af : Nat → Option Addr} {Nf Cf : Nat → Nat} {Mf : Nat → Nat → Int} (h : MatRd w B A n Af Nf Cf Mf) (hb : B ≤ B') : MatRd w B' A n Af Nf Cf Mf :=
  ⟨h.top.more hb, fun k hk => (h.row k hk).more hb, h.cap⟩
/-- As many rows, as many marks in each, all on the scale. -/
def TabOk (lo hi st : Int) (n : Nat) (Nf : Nat → Nat) (Mf : Nat → Nat → Int) (en ju : Nat) : Prop := n = en ∧ ∀ k, k < n → Nf k = ju ∧ ∀ j, j < ju → OnSc lo hi st (Mf k j)
set_option maxRecDepth 100000 in
set_option linter.unusedSimpArgs false in
set_option linter.unusedVariables false in
set_option maxHeartbeats 4000000 in
theorem table57_any (x : Crit) (hx : CrOk x.lo x.hi x.st x.ho x.tr) (A : Option Addr) (n c : Nat) (Af : Nat → Option Addr) (Nf Cf : Nat → Nat) (Mf : Nat → Nat → Int) (en ju : Nat) (hen : en ≤ 5) (hju : ju ≤ 5) (w : World) (hR : MatRd w w.heap.size A n Af Nf Cf Mf) :
    Calls Tryz.prog 9 #[.agg x.c, .slice A n c, .int .i64 en, .int .i64 ju] w (BPost (TabOk x.lo x.hi x.st n Nf Mf en ju) w) := by
  obtain ⟨xs, lo, hi, st, ho, tr, rv⟩ := x
  simp only [Crit.c] at hx ⊢
  by_cases c1 : n = en
  rotate_left
  · have g1 : ((n : Int) != (en : Int)) = true := bne_iff_ne.2 (by omega)
    have g1n : (n != en) = true := bne_iff_ne.2 c1
    have HN := Lib.hid (show ¬ TabOk lo hi st n Nf Mf en ju from fun h => c1 h.1)
    clear hR hx c1
    go_enter Tryz.func9, Tryz.ntmps9
    go_wp2_with fail
    go_ret
    exact ⟨false, rfl, by simp [HN.out], (Below.refl _ w).alloc (Nat.le_refl _) _⟩
  have g1 : ((n : Int) != (en : Int)) = false := by rw [c1]; simp
  have g1n : (n != en) = false := by rw [c1]; simp
  have hn5 : n ≤ 5 := by omega
  have HON := Lib.hid (fun m W => on16_any xs lo hi st ho tr rv hx m W)
  have HR := Lib.hid hR
  have HEN := Lib.hid c1
  clear hR hx c1
  go_enter Tryz.func9, Tryz.ntmps9
  go_wp2_with fail
  go_loopw [19] (fun i wr => ∃ k : Nat, k ≤ n ∧ i = .int .i64 k ∧ (∀ q, q < k → Nf q = ju ∧ ∀ j, j < ju → OnSc lo hi st (Mf q j)) ∧ Blk wr w.heap.size 23 (critC xs lo hi st ho tr rv) ∧ Below w.heap.size w wr) (fun i _ => n - (intOf i).toNat)
  case atStart => exact ⟨0, Nat.zero_le _, rfl, fun j h => by omega, Blk.new _ _ _, (Below.refl _ w).alloc (Nat.le_refl _) _⟩
  case round =>
    obtain ⟨k, hk, rfl, hd, hC, hB⟩ := hrel
    have HD := Lib.hid hd
    have HC := Lib.hid hC
    have HB := Lib.hid hB
    clear hd hC hB
    rcases Nat.lt_or_ge k n with h5 | h5
    · have g5 : decide ((k : Int) < (n : Int)) = true := decide_eq_true (by omega)
      have g5n : decide (k < n) = true := decide_eq_true h5
      obtain ⟨b, off, rfl, hbl, hcell⟩ := (HR.out.below HB.out).top.at_ (k := k) h5
      obtain ⟨nk, hnk⟩ : ∃ y, y = Nf k := ⟨_, rfl⟩
      obtain ⟨Ak, hAk⟩ : ∃ y, y = Af k := ⟨_, rfl⟩
      obtain ⟨ck, hck⟩ : ∃ y, y = Cf k := ⟨_, rfl⟩
      rw [← hAk, ← hnk, ← hck] at hcell
      have HRK := Lib.hid (show ∀ W, Below w.heap.size w W → Rd W w.heap.size Ak nk (fun j => .int .i64 (Mf k j)) from fun W hW => by rw [hAk, hnk]; exact (HR.out.below hW).row k h5)
      have HNK := Lib.hid hnk
      clear hAk hck hnk
      by_cases c2 : nk = ju
      rotate_left
      · have g2 : ((nk : Int) != (ju : Int)) = true := bne_iff_ne.2 (by omega)
        have g2n : (nk != ju) = true := bne_iff_ne.2 c2
        have HN := Lib.hid (show ¬ TabOk lo hi st n Nf Mf en ju from fun h => c2 (HNK.out.trans (h.2 k h5).1))
        clear c2
        go_wp2_with fail
        go_ret
        exact ⟨false, rfl, by simp [HN.out], HB.out⟩
      · have g2 : ((nk : Int) != (ju : Int)) = false := by rw [c2]; simp
        have g2n : (nk != ju) = false := by rw [c2]; simp
        have hnk5 : nk ≤ 5 := by omega
        have HJ := Lib.hid c2
        clear c2
        go_wp2_with fail
        obtain ⟨wo, hwo⟩ : ∃ x, x = wr := ⟨wr, rfl⟩
        subst hwo
        go_loopw [29] (fun i wr => ∃ q : Nat, q ≤ nk ∧ i = .int .i64 q ∧ (∀ j, j < q → OnSc lo hi st (Mf k j)) ∧ Blk wr w.heap.size 23 (critC xs lo hi st ho tr rv) ∧ Below w.heap.size w wr) (fun i _ => nk - (intOf i).toNat)
        case atStart => exact ⟨0, Nat.zero_le _, rfl, fun j h => by omega, HC.out, HB.out⟩
        case round =>
          obtain ⟨q, hq, rfl, hd2, hC2, hB2⟩ := hrel
          have HD2 := Lib.hid hd2
          have HC2 := Lib.hid hC2
          have HB2 := Lib.hid hB2
          clear hd2 hC2 hB2
          rcases Nat.lt_or_ge q nk with h6 | h6
          · have g6 : decide ((q : Int) < (nk : Int)) = true := decide_eq_true (by omega)
            have g6n : decide (q < nk) = true := decide_eq_true h6
            obtain ⟨b2, off2, e2, hbl2, hcell2⟩ := (HRK.out wr HB2.out).at_ (k := q) h6
            subst e2
            obtain ⟨y, hy⟩ : ∃ y, y = Mf k q := ⟨_, rfl⟩
            rw [← hy] at hcell2
            have HY := Lib.hid hy
            clear hy
            have x0 : wr.cell? ⟨w.heap.size, 0, none⟩ = some (.string xs) := HC2.out.cell 0
            have x1 : wr.cell? ⟨w.heap.size, 1, none⟩ = some (.int .i64 lo) := HC2.out.cell 1
            have x2 : wr.cell? ⟨w.heap.size, 2, none⟩ = some (.int .i64 hi) := HC2.out.cell 2
            have x3 : wr.cell? ⟨w.heap.size, 3, none⟩ = some (.int .i64 st) := HC2.out.cell 3
            have x4 : wr.cell? ⟨w.heap.size, 4, none⟩ = some (.int .i64 ho) := HC2.out.cell 4
            have x5 : wr.cell? ⟨w.heap.size, 5, none⟩ = some (.int .i64 tr) := HC2.out.cell 5
            have x6 : wr.cell? ⟨w.heap.size, 6, none⟩ = some (.bool rv) := HC2.out.cell 6
            go_wp2_with fail
            refine (HON.out y wr).mono ?_
            rintro e w6 ⟨rfl, hb6⟩
            have HC6 := Lib.hid (HC2.out.below hb6 HC2.out.lt)
            have HB6 := Lib.hid (HB2.out.trans (hb6.mono HB2.out.size))
            clear x0 x1 x2 x3 x4 x5 x6 hb6
            by_cases c3 : OnSc lo hi st y
            · have g3 : decide (OnSc lo hi st y) = true := decide_eq_true c3
              have HD3 := Lib.hid (show ∀ j, j < q + 1 → OnSc lo hi st (Mf k j) from fun j hj => by
                rcases Nat.lt_or_ge j q with h7 | h7
                · exact HD2.out j h7
                · obtain rfl : j = q := by omega
                  rw [← HY.out]; exact c3)
              clear c3
              go_wp2_with fail
              go_roundw
              case rel => exact ⟨q + 1, by omega, by go_num, HD3.out, HC6.out, HB6.out⟩
              case measure => simp [intOf]; omega
            · have g3 : decide (OnSc lo hi st y) = false := decide_eq_false c3
              have HN := Lib.hid (show ¬ TabOk lo hi st n Nf Mf en ju from fun h => c3 (by rw [HY.out]; exact (h.2 k h5).2 q (by have := HJ.out; omega)))
              clear c3
              go_wp2_with fail
              go_ret
              exact ⟨false, rfl, by simp [HN.out], HB6.out⟩
          · have g6 : decide ((q : Int) < (nk : Int)) = false := decide_eq_false (by omega)
            have g6n : decide (q < nk) = false := decide_eq_false (by omega)
            have HD3 := Lib.hid (show ∀ p, p < k + 1 → Nf p = ju ∧ ∀ j, j < ju → OnSc lo hi st (Mf p j) from fun p hp => by
              rcases Nat.lt_or_ge p k with h7 | h7
              · exact HD.out p h7
              · obtain rfl : p = k := by omega
                exact ⟨by rw [← HNK.out]; exact HJ.out, fun j hj => HD2.out j (by have := HJ.out; omega)⟩)
            go_wp2_with fail
            go_roundw
            case rel => exact ⟨k + 1, by omega, by go_num, HD3.out, HC2.out, HB2.out⟩
            case measure => simp [intOf]; omega
    · have g5 : decide ((k : Int) < (n : Int)) = false := decide_eq_false (by omega)
      have g5n : decide (k < n) = false := decide_eq_false (by omega)
      have HY := Lib.hid (show TabOk lo hi st n Nf Mf en ju from ⟨HEN.out, fun p hp => HD.out p (by omega)⟩)
      go_wp2_with fail
      go_ret
      exact ⟨true, rfl, by simp [HY.out], HB.out⟩
end Go.Proofs.YtkkcbkfpaoldmaaGreatDoor

/- Walk: sums57. -/
namespace Go.Proofs.YtkkcbkfpaoldmaaGreatDoor
open Go Go.RowKit Go.Shelf
attribute [local go_sem] Oper.semAt_some

def sumTo (f : Nat → Int) : Nat → Int
  | 0 => 0
  | j + 1 => sumTo f j + f j
theorem sumTo_range {f : Nat → Int} {a b : Int} : ∀ n, (∀ j, j < n → a ≤ f j ∧ f j ≤ b) → a * n ≤ sumTo f n ∧ sumTo f n ≤ b * n
  | 0, _ => by simp [sumTo]
  | n + 1, h => by
    have ih := sumTo_range n fun j hj => h j (by omega)
    have h1 := h n (by omega)
    have e1 : a * ((n + 1 : Nat) : Int) = a * n + a := by rw [Int.natCast_add, Int.mul_add, Int.natCast_one, Int.mul_one]
    have e2 : b * ((n + 1 : Nat) : Int) = b * n + b := by rw [Int.natCast_add, Int.mul_add, Int.natCast_one, Int.mul_one]
    rw [sumTo, e1, e2]
    omega
/-- The better marks of a row, added up. -/
def rowSum (lo hi : Int) (rv : Bool) (Mf : Nat → Nat → Int) (ju k : Nat) : Int := sumTo (fun j => bet lo hi rv (Mf k j)) ju
def sumsL (lo hi : Int) (rv : Bool) (Mf : Nat → Nat → Int) (ju n : Nat) : List Int := (List.range n).map (rowSum lo hi rv Mf ju)
theorem sumsL_succ (lo hi : Int) (rv : Bool) (Mf : Nat → Nat → Int) (ju n : Nat) : sumsL lo hi rv Mf ju (n + 1) = sumsL lo hi rv Mf ju n ++ [rowSum lo hi rv Mf ju n] := by simp [sumsL, List.range_succ]
theorem sumsL_len (lo hi : Int) (rv : Bool) (Mf : Nat → Nat → Int) (ju n : Nat) : (sumsL lo hi rv Mf ju n).length = n := by simp [sumsL]
theorem sumsL_get (lo hi : Int) (rv : Bool) (Mf : Nat → Nat → Int) (ju n k : Nat) (h : k < n) : (sumsL lo hi rv Mf ju n).getD k 0 = rowSum lo hi rv Mf ju k := by
  simp [sumsL, List.getD_eq_getElem?_getD, List.getElem?_range h]
theorem bet_range {lo hi st ho tr : Int} {rv : Bool} (hc : CrOk lo hi st ho tr) {n : Int} (h : OnSc lo hi st n) : 0 ≤ bet lo hi rv n ∧ bet lo hi rv n ≤ 1000 := by
  have k1 := hc.l0
  have k3 := hc.h1
  have h1 := h.1
  have h2 := h.2.1
  unfold bet
  split <;> omega
theorem own_sub {w : World} {base base' : Nat} {v : Value} {l : List Int} (h : IOwn w base v l) (hb : base' ≤ base) : IOwn w base' v l := own_weaken h hb
def SumsPost (l : List Int) (w : World) (e : Ending) (w' : World) : Prop := ∃ v, e = .returned (.tuple #[v, .bool true]) ∧ IOwn w' w.heap.size v l ∧ Below w.heap.size w w'
set_option maxRecDepth 100000 in
set_option linter.unusedSimpArgs false in
set_option linter.unusedVariables false in
set_option maxHeartbeats 4000000 in
theorem sums57_any (x : Crit) (hx : CrOk x.lo x.hi x.st x.ho x.tr) (A : Option Addr) (n c : Nat) (Af : Nat → Option Addr) (Nf Cf : Nat → Nat) (Mf : Nat → Nat → Int) (en ju : Nat) (hen : en ≤ 5) (hju : ju ≤ 5) (hT : TabOk x.lo x.hi x.st n Nf Mf en ju) (w : World) (hR : MatRd w w.heap.size A n Af Nf Cf Mf) :
    Calls Tryz.prog 10 #[.agg x.c, .slice A n c] w (SumsPost (sumsL x.lo x.hi x.rv Mf ju n) w) := by
  obtain ⟨xs, lo, hi, st, ho, tr, rv⟩ := x
  simp only [Crit.c] at hx hT ⊢
  have hn5 : n ≤ 5 := by have := hT.1; omega
  have HBT := Lib.hid (fun m hm W => better_ok xs lo hi st ho tr rv hx m hm W)
  have HBR := Lib.hid (fun (m : Int) (hm : OnSc lo hi st m) => bet_range (rv := rv) hx hm)
  have HR := Lib.hid hR
  have HT := Lib.hid hT.2
  clear hR hx hT
  go_enter Tryz.func10, Tryz.ntmps10
  go_wp2_with fail
  go_loopw [4, 15] (fun v i wr => ∃ k : Nat, k ≤ n ∧ i = .int .i64 k ∧ IOwn wr (w.heap.size + 1) v (sumsL lo hi rv Mf ju k) ∧ Blk wr w.heap.size 23 (critC xs lo hi st ho tr rv) ∧ Below w.heap.size w wr) (fun _ i _ => n - (intOf i).toNat)
  case atStart => exact ⟨0, Nat.zero_le _, rfl, IOwn.nil _ _, Blk.new _ _ _, (Below.refl _ w).alloc (Nat.le_refl _) _⟩
  case round =>
    obtain ⟨k, hk, rfl, hO, hC, hB⟩ := hrel
    have HO := Lib.hid hO
    have HC := Lib.hid hC
    have HB := Lib.hid hB
    clear hO hC hB
    rcases Nat.lt_or_ge k n with h5 | h5
    · have g5 : decide ((k : Int) < (n : Int)) = true := decide_eq_true (by omega)
      have g5n : decide (k < n) = true := decide_eq_true h5
      obtain ⟨b, off, rfl, hbl, hcell⟩ := (HR.out.below HB.out).top.at_ (k := k) h5
      have hnk := (HT.out k h5).1
      obtain ⟨Ak, hAk⟩ : ∃ y, y = Af k := ⟨_, rfl⟩
      obtain ⟨ck, hck⟩ : ∃ y, y = Cf k := ⟨_, rfl⟩
      rw [← hAk, ← hck, hnk] at hcell
      have HRK := Lib.hid (show ∀ W, Below w.heap.size w W → Rd W w.heap.size Ak ju (fun j => .int .i64 (Mf k j)) from fun W hW => by rw [hAk, ← hnk]; exact (HR.out.below hW).row k h5)
      clear hAk hck hnk
      go_wp2_with fail
      obtain ⟨wo, hwo⟩ : ∃ x, x = wr := ⟨wr, rfl⟩
      subst hwo
      obtain ⟨v4, hv4⟩ : ∃ x, x = u4 := ⟨u4, rfl⟩
      subst hv4
      go_loopw [4, 8, 21] (fun lv sv i wr => lv = v4 ∧ ∃ q : Nat, q ≤ ju ∧ i = .int .i64 q ∧ sv = .int .i64 (sumTo (fun j => bet lo hi rv (Mf k j)) q) ∧ IOwn wr (w.heap.size + 1) v4 (sumsL lo hi rv Mf ju k) ∧ Blk wr w.heap.size 23 (critC xs lo hi st ho tr rv) ∧ Below w.heap.size w wr) (fun _ _ i _ => ju - (intOf i).toNat)
      case atStart => exact ⟨rfl, 0, Nat.zero_le _, rfl, rfl, HO.out, HC.out, HB.out⟩
      case round =>
        obtain ⟨rfl, q, hq, rfl, rfl, hO2, hC2, hB2⟩ := hrel
        have HO2 := Lib.hid hO2
        have HC2 := Lib.hid hC2
        have HB2 := Lib.hid hB2
        have hsr := sumTo_range (f := fun j => bet lo hi rv (Mf k j)) (a := 0) (b := 1000) q fun j hj => HBR.out _ ((HT.out k h5).2 j (by omega))
        clear hO2 hC2 hB2
        obtain ⟨s, hs⟩ : ∃ s, s = sumTo (fun j => bet lo hi rv (Mf k j)) q := ⟨_, rfl⟩
        rw [← hs] at hsr ⊢
        have HS := Lib.hid hs
        clear hs
        rcases Nat.lt_or_ge q ju with h6 | h6
        · have g6 : decide ((q : Int) < (ju : Int)) = true := decide_eq_true (by omega)
          have g6n : decide (q < ju) = true := decide_eq_true h6
          obtain ⟨b2, off2, e2, hbl2, hcell2⟩ := (HRK.out wr HB2.out).at_ (k := q) h6
          subst e2
          have hos := (HT.out k h5).2 q h6
          have hyr := HBR.out _ hos
          obtain ⟨y, hy⟩ : ∃ y, y = Mf k q := ⟨_, rfl⟩
          rw [← hy] at hcell2 hos hyr
          have HY := Lib.hid hy
          have HOS := Lib.hid hos
          clear hy hos
          have x0 : wr.cell? ⟨w.heap.size, 0, none⟩ = some (.string xs) := HC2.out.cell 0
          have x1 : wr.cell? ⟨w.heap.size, 1, none⟩ = some (.int .i64 lo) := HC2.out.cell 1
          have x2 : wr.cell? ⟨w.heap.size, 2, none⟩ = some (.int .i64 hi) := HC2.out.cell 2
          have x3 : wr.cell? ⟨w.heap.size, 3, none⟩ = some (.int .i64 st) := HC2.out.cell 3
          have x4 : wr.cell? ⟨w.heap.size, 4, none⟩ = some (.int .i64 ho) := HC2.out.cell 4
          have x5 : wr.cell? ⟨w.heap.size, 5, none⟩ = some (.int .i64 tr) := HC2.out.cell 5
          have x6 : wr.cell? ⟨w.heap.size, 6, none⟩ = some (.bool rv) := HC2.out.cell 6
          go_wp2_with fail
          refine (HBT.out y HOS.out wr).mono ?_
          rintro e w6 ⟨rfl, hb6⟩
          obtain ⟨z, hz⟩ : ∃ z, z = bet lo hi rv y := ⟨_, rfl⟩
          rw [← hz] at hyr ⊢
          have HZ := Lib.hid hz
          have HC6 := Lib.hid (HC2.out.below hb6 HC2.out.lt)
          have HB6 := Lib.hid (HB2.out.trans (hb6.mono HB2.out.size))
          have HO6 := Lib.hid (HO2.out.below hb6)
          have hw : wrap64 (s + z) = s + z := wrap_in _ (by omega)
          clear x0 x1 x2 x3 x4 x5 x6 hb6 hz
          go_wp2_with fail
          go_roundw
          case rel => exact ⟨rfl, q + 1, by omega, by go_num, by rw [sumTo, ← HS.out, ← HY.out, ← HZ.out], HO6.out, HC6.out, HB6.out⟩
          case measure => simp [intOf]; omega
        · have g6 : decide ((q : Int) < (ju : Int)) = false := decide_eq_false (by omega)
          have g6n : decide (q < ju) = false := decide_eq_false (by omega)
          have HS2 := Lib.hid (show s = rowSum lo hi rv Mf ju k by rw [HS.out, show q = ju by omega]; rfl)
          have hO1 := HO2.out.alloc (.cells #[.int .i64 s] 3)
          have hlen := sumsL_len lo hi rv Mf ju k
          have hsz := HB2.out.size
          have hlt := HC2.out.lt
          go_wp2_with (at_builtin; refine app_int rfl _ _ rfl (w.heap.size + 1) u4 _ rfl hO1 s (Blk.new _ _ _) rfl (by omega) (by simp; omega) ?_; intro v2 w2 hown2 hg2)
          go_roundw
          case rel =>
            have hg := hg2.alloc_first
            refine ⟨k + 1, by omega, by go_num, by rw [sumsL_succ, ← HS2.out]; exact hown2, HC2.out.grown hg.1 (fun e => by have := (World.ownsRow.lt HO2.out _ e.symm).1; omega), HB2.out.trans (hg.below HB2.out.size fun k hk => by have := (World.ownsRow.lt HO2.out _ hk).1; omega)⟩
          case measure => simp [intOf]; omega
    · have g5 : decide ((k : Int) < (n : Int)) = false := decide_eq_false (by omega)
      have g5n : decide (k < n) = false := decide_eq_false (by omega)
      obtain ⟨A2, c2, rfl, -⟩ := HO.out.shape
      go_wp2_with fail
      go_ret2
      exact ⟨_, rfl, by have := own_sub HO.out (Nat.le_succ _); rw [show k = n by omega] at this ⊢; exact this, HB.out⟩
end Go.Proofs.YtkkcbkfpaoldmaaGreatDoor

/- Walk: podiumref54.Fill of one mark; rows of rows of the call's own. -/
namespace Go.Proofs.YtkkcbkfpaoldmaaGreatDoor
open Go Go.RowKit Go.Shelf
attribute [local go_sem] Oper.semAt_some

theorem isInfo_all : ∃ i, Tryz.prog.info? 25 = some i ∧ i.zero = some (.slice none 0 0) ∧ i.size = 1 ∧ i.bytes = 24 := by
  have h : (Tryz.prog.info? 25).map (fun i => (i.zero, i.size, i.bytes)) = some (some (.slice none 0 0), 1, 24) := by kernel_rfl
  obtain ⟨i, hi, h0, h1, h2⟩ := info_parts h
  exact ⟨i, hi, h0, h1, h2⟩
noncomputable def isInfo : TypeInfo := isInfo_all.choose
theorem isInfo_eq : Tryz.prog.info? 25 = some isInfo := isInfo_all.choose_spec.1
theorem isInfo_zero : isInfo.zero = some (.slice none 0 0) := isInfo_all.choose_spec.2.1
theorem isInfo_size : isInfo.size = 1 := isInfo_all.choose_spec.2.2.1
theorem isInfo_bytes : isInfo.bytes = 24 := isInfo_all.choose_spec.2.2.2
/-- A row of slices of the call's own. -/
def SOwn (w : World) (base : Nat) (v : Value) (l : List Value) : Prop := w.ownsRow base 25 1 v l.length l
theorem SOwn.nil (w : World) (base : Nat) : SOwn w base (.slice none 0 0) [] := World.ownsRow_nil _ _ _ _
theorem SOwn.alloc {w : World} {base : Nat} {v : Value} {l : List Value} (h : SOwn w base v l) (o : Obj) : SOwn (w.alloc o) base v l := World.ownsRow.alloc h o
theorem SOwn.below {w w' : World} {base : Nat} {v : Value} {l : List Value} (h : SOwn w base v l) (hb : Below w.heap.size w w') : SOwn w' base v l :=
  World.ownsRow.kept h (row := none) ⟨hb.os, hb.tape, hb.output, hb.size, fun i hi _ => hb.block i hi⟩ (by cases v.ownBlock <;> simp)
theorem SOwn.shape {w : World} {base : Nat} {v : Value} {l : List Value} (h : SOwn w base v l) : ∃ A c, v = .slice A l.length c ∧ l.length ≤ c ∧ c ≤ 9223372036854775807 ∧ Rd w w.heap.size A l.length (fun k => l.getD k undef) := by
  rcases h.2 with ⟨rfl, h0⟩ | ⟨g, cap, cur, rfl, hbg, hg, hnc, hcm, hcs, htake⟩
  · exact ⟨none, 0, by rw [h0], by omega, by omega, by rw [h0]; exact Rd.zero⟩
  · refine ⟨_, cap, rfl, hnc, by simp only [maxLen] at hcm; omega, fun _ => ⟨g, 0, rfl, (Array.getElem?_eq_some_iff.1 hg).1, fun k hk => ?_⟩⟩
    rw [Nat.zero_add, World.ownsRow.cellAt h k (by omega)]
    simp [List.getD_eq_getElem?_getD, List.getElem?_eq_getElem hk]
theorem src_slc {W : World} {g : Nat} {t : TypeId} (y : Value) (hy : y.oneCell' = true) (h : Blk W g t #[y]) : Src Tryz.prog 1 24 (.slice (some ⟨g, 0, none⟩) 1 1) 1 [y] W := by
  have hR : Rd W W.heap.size (some ⟨g, 0, none⟩) (1 * 1) (fun _ => y) := Rd.of_blk h h.lt fun k hk => by
    rcases k with _ | k <;> first | rfl | omega
  exact src_rd (P := Tryz.prog) W (size := 1) (tx := 24) (n := 1) (c := 1) Tryz.underlying24 hR (by omega) (fun k _ => hy)
theorem sown_none (w : World) : SOwn (w.alloc (.cells #[] 25)) w.heap.size (.slice (some ⟨w.heap.size, 0, none⟩) 0 0) [] :=
  ⟨rfl, .inr ⟨w.heap.size, 0, #[], rfl, Nat.le_refl _, by
      have h := heap_alloc_new w (.cells #[] 25)
      simpa using h, Nat.le_refl _, by simp only [maxLen]; omega, rfl, rfl⟩⟩
section
variable {ops : Array Oper} {rest : List Oper} {o : Oper} {a : Act} {Q : Exit → Act → World → Prop}
theorem app_slc (hgd : o.guard = none) (s x : Operand) (ho : o.op = .call { callee := .builtin .append, args := #[s, x], argTypes := #[24, 24] })
    (base : Nat) {w : World} (v : Value) (l : List Value) (hs : a.eval s = v) (hown : SOwn w base v l) (y : Value) (hy : y.oneCell' = true) {g : Nat} {t : TypeId} (hg : Blk w g t #[y])
    (hx : a.eval x = .slice (some ⟨g, 0, none⟩) 1 1) (h47 : l.length + 1 ≤ 1000000000000) (hbase : base ≤ w.heap.size)
    (h : ∀ v' w', SOwn w' base v' (l ++ [y]) → Grew w w' v v' → wpList Tryz.prog ops Q rest (a.put o.dst v') w') : wpList Tryz.prog ops Q (o :: rest) a w :=
  wpList_append_src w hgd s x 24 24 ho base 25 isInfo (.slice none 0 0) 1 24 Tryz.underlying24 isInfo_eq isInfo_zero isInfo_size isInfo_bytes rfl v l.length l hs hown _ 1 [y] hx (src_slc y hy hg)
    (by simp only [maxLen]; omega) (by omega) hbase fun v' w' h1 h2 => h v' w' (by
      show World.ownsRow w' base 25 1 v' (l ++ [y]).length (l ++ [y])
      rw [List.length_append]; exact h1) h2
end
/-- Where the tick lies. -/
def tickN (lo st m : Int) : Nat := ((m - lo) / st).toNat
theorem tick_facts {lo hi st ho tr : Int} (hc : CrOk lo hi st ho tr) {m : Int} (hm : OnSc lo hi st m) : lo + (tickN lo st m : Int) * st = m ∧ Int.tdiv (m - lo) st = (tickN lo st m : Int) ∧ (tickN lo st m : Int) < marksN lo hi st := by
  have k1 := hc.l0
  have k2 := hc.lh
  have k4 := hc.s1
  have h1 := hm.1
  have h2 := hm.2.1
  have h0 : 0 ≤ (m - lo) / st := Int.ediv_nonneg (by omega) (by omega)
  have e0 : (tickN lo st m : Int) = (m - lo) / st := by unfold tickN; omega
  have e1 : (m - lo) / st * st = m - lo := by
    have := Int.emod_add_mul_ediv (m - lo) st
    rw [hm.2.2, Int.zero_add, Int.mul_comm] at this
    exact this
  have e2 : (m - lo) / st ≤ (hi - lo) / st := Int.ediv_le_ediv (by omega) (by omega)
  refine ⟨by rw [e0, e1]; omega, by rw [e0, Int.tdiv_eq_ediv_of_nonneg (by omega)], ?_⟩
  rw [e0]
  unfold marksN
  omega
def fillL (nb t : Nat) : List Int := (List.replicate nb 0).set t 1
def FillPost (nb t : Nat) (w : World) (e : Ending) (w' : World) : Prop :=
  ∃ (gv kb gb : Nat), e = .returned (.slice (some ⟨gv, 0, none⟩) 1 kb) ∧ gv ≠ gb ∧ SOwn w' w.heap.size (.slice (some ⟨gv, 0, none⟩) 1 kb) [.slice (some ⟨gb, 0, none⟩) nb nb] ∧ IOwn w' w.heap.size (.slice (some ⟨gb, 0, none⟩) nb nb) (fillL nb t) ∧ Below w.heap.size w w'
set_option maxRecDepth 100000 in
set_option linter.unusedSimpArgs false in
set_option linter.unusedVariables false in
set_option maxHeartbeats 4000000 in
theorem fill54_ok (x : Crit) (hx : CrOk x.lo x.hi x.st x.ho x.tr) (gc : Nat) (tc : TypeId) (Am : Option Addr) (cm : Nat) (m : Int) (hm : OnSc x.lo x.hi x.st m) (nb : Nat) (hnb : (nb : Int) = marksN x.lo x.hi x.st) (w : World) (hc : Blk w gc tc x.c) (hmk : Rd w w.heap.size Am 1 (fun _ => .int .i64 m)) :
    Calls Tryz.prog 11 #[.slice (some ⟨gc, 0, none⟩) 1 1, .slice Am 1 cm] w (FillPost nb (tickN x.lo x.st m) w) := by
  obtain ⟨xs, lo, hi, st, ho, tr, rv⟩ := x
  simp only [Crit.c] at hx hc hm hnb ⊢
  have hmr := marks_range hx
  obtain ⟨f1, f2, f3⟩ := tick_facts hx hm
  have k1 := hx.l0
  have k2 := hx.lh
  have k3 := hx.h1
  have k4 := hx.s1
  have k5 := hm.1
  have k6 := hm.2.1
  have HMK := Lib.hid (fun W => marks54_ok xs lo hi st ho tr rv hx W)
  rw [← hnb] at HMK hmr f3
  have hn2 := hmr.1
  have hn3 := hmr.2.1
  obtain ⟨t, ht⟩ : ∃ t, t = tickN lo st m := ⟨_, rfl⟩
  rw [← ht] at f2 f3 ⊢
  have s0 : (st == 0) = false := beq_eq_false_iff_ne.2 (by omega)
  have s0n : ¬ st = 0 := by omega
  have g1 : (m != -1) = true := bne_iff_ne.2 (by omega)
  have hw : wrap64 (m - lo) = m - lo := wrap_in _ (by omega)
  obtain ⟨b, off, rfl, hbl, hcell⟩ := hmk.at_ (k := 0) (by omega)
  have htb : t < nb := by omega
  have HC := Lib.hid hc
  have hgc := hc.lt
  have HM := Lib.hid hmk
  clear hc hmk hm hnb hmr ht f1 f3 hx hcell
  go_enter Tryz.func11, Tryz.ntmps11
  go_wp2_with fail
  go_loopw [5, 6] (fun v i wr => ((i = .int .i64 0 ∧ SOwn wr w.heap.size v []) ∨ (i = .int .i64 1 ∧ ∃ gv kb gb, v = .slice (some ⟨gv, 0, none⟩) 1 kb ∧ gv ≠ gb ∧ SOwn wr w.heap.size (.slice (some ⟨gv, 0, none⟩) 1 kb) [.slice (some ⟨gb, 0, none⟩) nb nb] ∧ IOwn wr w.heap.size (.slice (some ⟨gb, 0, none⟩) nb nb) (fillL nb t))) ∧ Below w.heap.size w wr) (fun _ i _ => 1 - (intOf i).toNat)
  case atStart =>
    refine ⟨.inl ⟨rfl, ?_⟩, ?_⟩
    · exact sown_none w
    · exact (Below.refl _ w).alloc (Nat.le_refl _) _
  case round =>
    obtain ⟨⟨rfl, hO⟩ | ⟨rfl, gv, kb, gb, rfl, hne, hO, hI⟩, hB⟩ := hrel
    · have HO := Lib.hid hO
      have HB := Lib.hid hB
      have hC := HC.out.below hB hgc
      clear hO hB
      have q0 : wr.cell? ⟨gc, 0, none⟩ = some (.string xs) := hC.cell 0
      have q1 : wr.cell? ⟨gc, 1, none⟩ = some (.int .i64 lo) := hC.cell 1
      have q2 : wr.cell? ⟨gc, 2, none⟩ = some (.int .i64 hi) := hC.cell 2
      have q3 : wr.cell? ⟨gc, 3, none⟩ = some (.int .i64 st) := hC.cell 3
      have q4 : wr.cell? ⟨gc, 4, none⟩ = some (.int .i64 ho) := hC.cell 4
      have q5 : wr.cell? ⟨gc, 5, none⟩ = some (.int .i64 tr) := hC.cell 5
      have q6 : wr.cell? ⟨gc, 6, none⟩ = some (.bool rv) := hC.cell 6
      clear hC
      go_wp2_with fail
      refine (HMK.out wr).mono ?_
      rintro e w1 ⟨rfl, hb1⟩
      have HO1 := Lib.hid (HO.out.below hb1)
      have HB1 := Lib.hid (HB.out.trans (hb1.mono HB.out.size))
      clear q0 q1 q2 q3 q4 q5 q6 hb1 HO HB
      have hsz1 := HB1.out.size
      go_upto_region 6 with (refine make_ints rfl _ rfl w.heap.size nb rfl (by omega) hsz1 ?_; intro w2 hI2 hG2)
      have hB2 : Below w1.heap.size w1 w2 := ⟨hG2.os, hG2.tape, hG2.output, hG2.size, fun i hi => hG2.block i hi (by simp)⟩
      have HBW := Lib.hid (HB1.out.trans (hB2.mono HB1.out.size))
      have HO2 := Lib.hid (HO1.out.below hB2)
      have HC2 := Lib.hid (HC.out.below HBW.out hgc)
      obtain ⟨gb, hgb⟩ : ∃ g, g = w1.heap.size := ⟨_, rfl⟩
      rw [← hgb] at hI2 ⊢
      have HGB := Lib.hid hgb
      have HB12 := Lib.hid hB2
      have HI2 := Lib.hid hI2
      have hgc2 : gc < gb := by omega
      have hgw : w.heap.size ≤ gb := by omega
      have HSL := Lib.hid (show ∀ g, (u5 : Value).ownBlock = some g → g < gb from fun g e => by
        have := (World.ownsRow.lt HO1.out g e).2
        omega)
      have q7 : w2.cell? ⟨b, off, none⟩ = some (.int .i64 m) := by
        obtain ⟨b', off', e', -, hc'⟩ := (HM.out.below HBW.out).at_ (k := 0) (by omega)
        simp only [Option.some.injEq, Addr.mk.injEq, and_true] at e'
        obtain ⟨rfl, rfl⟩ := e'
        exact hc'
      clear hI2 hG2 hB2 hgb
      go_wp2_with fail
      have q1 : w2.cell? ⟨gc, 1, none⟩ = some (.int .i64 lo) := HC2.out.cell 1
      have q3 : w2.cell? ⟨gc, 3, none⟩ = some (.int .i64 st) := HC2.out.cell 3
      have ct : w2.cell? ⟨gb, t, none⟩ = some (.int .i64 0) := by
        have h := HI2.out.cellAt (by simp) htb
        simpa [List.getD_eq_getElem?_getD, List.getElem?_replicate, htb] using h
      have ft := HI2.out.frozenAt (by simp) t
      go_region
      have hI3 : IOwn (w2.setCell ⟨gb, t, none⟩ (.int .i64 1)).drew w.heap.size (.slice (some ⟨gb, 0, none⟩) nb nb) (fillL nb t) := (HI2.out.set (by simp) t 1).1.below (Below.refl _ _).drew
      have hB3 : Below w1.heap.size w1 (w2.setCell ⟨gb, t, none⟩ (.int .i64 1)).drew := (HB12.out.setCell (p := ⟨gb, t, none⟩) (by show w1.heap.size ≤ gb; have := HGB.out; omega) _).drew
      generalize (w2.setCell ⟨gb, t, none⟩ (.int .i64 1)).drew = w3 at hI3 hB3 ⊢
      have hO3 := HO1.out.below hB3
      have HI3 := Lib.hid hI3
      have HB3 := Lib.hid (HB1.out.trans (hB3.mono HB1.out.size))
      have HG3 := Lib.hid hB3.size
      have hO4 := hO3.alloc (.cells #[.slice (some ⟨gb, 0, none⟩) nb nb] 25)
      have hsz3 := HB3.out.size
      have HO3 := Lib.hid hO3
      clear hI3 hB3 hO3 HI2 HO2 HBW HC2 q1 q3 q7 ct ft
      go_wp2_with (at_builtin; refine app_slc rfl _ _ rfl w.heap.size u5 [] rfl hO4 (.slice (some ⟨gb, 0, none⟩) nb nb) rfl (Blk.new _ _ _) rfl (by simp) (by simp; omega) ?_; intro v7 w7 hown7 hg7; obtain ⟨A7, c7, e7, -⟩ := hown7.shape; rw [List.nil_append, List.length_singleton] at e7; subst e7)
      go_roundw
      case rel =>
        have hg := hg7.alloc_first
        have hI7 : IOwn w7 w.heap.size (.slice (some ⟨gb, 0, none⟩) nb nb) (fillL nb t) := by
          refine World.ownsRow.kept HI3.out (row := (u5 : Value).ownBlock) hg.1 (.inr fun e => ?_)
          have e2 : (u5 : Value).ownBlock = some gb := by rw [← e]; simp [Value.ownBlock]
          have := HSL.out gb e2
          omega
        have hBx : Below w.heap.size w w7 := HB3.out.trans (hg.below HB3.out.size fun k hk => (World.ownsRow.lt HO3.out _ hk).1)
        obtain ⟨A8, c8, e8, -⟩ := hown7.shape
        rcases hown7.2 with ⟨e9, -⟩ | ⟨gv, cap, cur, e9, -⟩
        · cases e9
        · have e10 : A7 = some ⟨gv, 0, none⟩ := by
            simp only [Value.slice.injEq] at e9
            exact e9.1
          subst e10
          refine ⟨.inr ⟨by go_num, gv, c7, gb, rfl, ?_, hown7, hI7⟩, hBx⟩
          rcases hg.2 with h1 | ⟨k2, h1, h2⟩
          · have e3 : (u5 : Value).ownBlock = some gv := by rw [← h1]; simp [Value.ownBlock]
            have := HSL.out gv e3
            omega
          · have e3 : gv = k2 := by simpa [Value.ownBlock] using h1
            have h4 := (World.ownsRow.lt HI3.out gb (by simp [Value.ownBlock])).2
            omega
      case measure => simp [intOf]
    · have HO := Lib.hid hO
      have HI := Lib.hid hI
      have HB := Lib.hid hB
      clear hO hI hB
      go_wp2_with fail
      go_ret
      exact ⟨gv, kb, gb, rfl, hne, HO.out, HI.out, HB.out⟩
/-- What the filled boxes are, and the smudged ones. -/
theorem fill_bx (nb t : Nat) (ht : t < nb) : Bx (fillL nb t) nb t false := by
  have hg : ∀ k, k < nb → (fillL nb t).getD k 0 = if k = t then 1 else 0 := fun k hk => by
    unfold fillL
    rw [List.getD_eq_getElem?_getD, List.getElem?_set]
    by_cases h : t = k
    · subst h; simp [hk]
    · rw [if_neg h, if_neg (fun e => h e.symm)]; simp [hk]
  have hc2 : ∀ m, m ≤ nb → cntN (fillL nb t) 2 m = 0 := fun m => by
    induction m with
    | zero => intro _; rfl
    | succ m ih =>
      intro h
      rw [cntN, ih (by omega), hg m (by omega)]
      split <;> simp
  have hc1 : ∀ m, m ≤ nb → cntN (fillL nb t) 1 m = if t < m then 1 else 0 := fun m => by
    induction m with
    | zero => intro _; rfl
    | succ m ih =>
      intro h
      rw [cntN, ih (by omega), hg m (by omega)]
      by_cases e : m = t
      · subst e; simp
      · rw [if_neg e]
        by_cases h2 : t < m
        · have h3 : t < m + 1 := by omega
          simp [h2, h3]
        · have h3 : ¬ t < m + 1 := by omega
          simp [h2, h3]
  exact ⟨ht, fun k hk => by rw [hg k hk]; split <;> omega, fun h => (by cases h), fun _ => hc2 nb (Nat.le_refl _), fun _ => by rw [hc1 nb (Nat.le_refl _), if_pos ht], fun _ k hk => by rw [hg k hk]; split <;> simp_all⟩
theorem smudge_bx (nb t : Nat) (ht : t < nb) : Bx ((fillL nb t).set 0 2) nb t true := by
  have h1 := fill_bx nb t ht
  have hl : (fillL nb t).length = nb := by simp [fillL]
  have hg : ∀ k, k < nb → ((fillL nb t).set 0 2).getD k 0 = if k = 0 then 2 else (fillL nb t).getD k 0 := fun k hk => by
    rw [List.getD_eq_getElem?_getD, List.getElem?_set]
    by_cases h : 0 = k
    · subst h; simp [hl, hk]
    · rw [if_neg h, if_neg (fun e => h e.symm), List.getD_eq_getElem?_getD]
  have hc : ∀ m, 0 < m → m ≤ nb → 0 < cntN ((fillL nb t).set 0 2) 2 m := fun m => by
    induction m with
    | zero => intro h; omega
    | succ m ih =>
      intro _ h
      rw [cntN]
      rcases Nat.eq_zero_or_pos m with h0 | h0
      · subst h0
        rw [hg 0 (by omega)]
        simp
      · have := ih h0 (by omega)
        omega
  refine ⟨ht, fun k hk => ?_, fun _ => hc nb (by omega) (Nat.le_refl _), fun h => (by cases h), fun h => (by cases h), fun h => (by cases h)⟩
  rw [hg k hk]
  split
  · omega
  · exact h1.rg k hk
end Go.Proofs.YtkkcbkfpaoldmaaGreatDoor

/- Rows of rows that grow; the walk of one piece of perms57: a row with one element laid into it. -/
namespace Go.Proofs.YtkkcbkfpaoldmaaGreatDoor
open Go Go.RowKit Go.Shelf
attribute [local go_sem] Oper.semAt_some

/-- A row of ints that lies apart from what v owns. -/
def RowAp (w : World) (v x : Value) (l : List Int) : Prop := ∃ A c, x = .slice A l.length c ∧ l.length ≤ c ∧ c ≤ 9223372036854775807 ∧ Rd w w.heap.size A l.length (fun j => .int .i64 (l.getD j 0)) ∧ ∀ b, A = some b → 0 < l.length → v.ownBlock ≠ some b.block
/-- Rows in memory. -/
def RowsRd (w : World) (A : Option Addr) (L : List (List Int)) : Prop := ∃ V : List Value, V.length = L.length ∧ Rd w w.heap.size A L.length (fun k => V.getD k undef) ∧ ∀ k, k < L.length → ∃ A c, V.getD k undef = .slice A (L.getD k []).length c ∧ (L.getD k []).length ≤ c ∧ c ≤ 9223372036854775807 ∧ Rd w w.heap.size A (L.getD k []).length (fun j => .int .i64 ((L.getD k []).getD j 0))
/-- Rows that grow. -/
structure PL (w : World) (base : Nat) (v : Value) (L : List (List Int)) : Prop where
  ex : ∃ V : List Value, V.length = L.length ∧ SOwn w base v V ∧ ∀ k, k < L.length → RowAp w v (V.getD k undef) (L.getD k [])
theorem RowsRd.below {w w' : World} {A : Option Addr} {L : List (List Int)} (h : RowsRd w A L) (hb : Below w.heap.size w w') : RowsRd w' A L := by
  obtain ⟨V, hV, hR, hr⟩ := h
  refine ⟨V, hV, (hR.below hb).more hb.size, fun k hk => ?_⟩
  obtain ⟨A2, c2, e, h1, h2, h3⟩ := hr k hk
  exact ⟨A2, c2, e, h1, h2, (h3.below hb).more hb.size⟩
theorem RowsRd.at_ {w : World} {A : Option Addr} {L : List (List Int)} (h : RowsRd w A L) {k : Nat} (hk : k < L.length) : ∃ b off A2 c2, A = some ⟨b, off, none⟩ ∧ b < w.heap.size ∧ w.cell? ⟨b, off + k, none⟩ = some (.slice A2 (L.getD k []).length c2) ∧ (L.getD k []).length ≤ c2 ∧ c2 ≤ 9223372036854775807 ∧ Rd w w.heap.size A2 (L.getD k []).length (fun j => .int .i64 ((L.getD k []).getD j 0)) := by
  obtain ⟨V, hV, hR, hr⟩ := h
  obtain ⟨b, off, e, hb, hc⟩ := hR.at_ hk
  obtain ⟨A2, c2, e2, h1, h2, h3⟩ := hr k hk
  rw [e2] at hc
  exact ⟨b, off, A2, c2, e, hb, hc, h1, h2, h3⟩
theorem PL.nil (w : World) (base : Nat) : PL w base (.slice none 0 0) [] := ⟨[], rfl, SOwn.nil _ _, fun k hk => by simp at hk⟩
theorem PL.below {w w' : World} {base : Nat} {v : Value} {L : List (List Int)} (h : PL w base v L) (hb : Below w.heap.size w w') : PL w' base v L := by
  obtain ⟨V, hV, hO, hr⟩ := h.ex
  refine ⟨V, hV, hO.below hb, fun k hk => ?_⟩
  obtain ⟨A2, c2, e, h1, h2, h3, h4⟩ := hr k hk
  exact ⟨A2, c2, e, h1, h2, (h3.below hb).more hb.size, h4⟩
theorem RowAp.grew {w w' : World} {v v' x : Value} {l : List Int} (h : RowAp w v x l) (hg : Grew w w' v v') : RowAp w' v' x l := by
  obtain ⟨A2, c2, e, h1, h2, h3, h4⟩ := h
  refine ⟨A2, c2, e, h1, h2, fun h0 => ?_, fun b hb h0 => ?_⟩
  · obtain ⟨b, off, e3, hbl, hc⟩ := h3 h0
    refine ⟨b, off, e3, Nat.lt_of_lt_of_le hbl hg.1.size, fun k hk => ?_⟩
    have := h4 _ e3 h0
    rw [← hc k hk]
    exact World.cell?_of_block (a := ⟨b, off + k, none⟩) (hg.1.block b hbl (fun e4 => this e4.symm))
  · obtain ⟨b', off, e3, hbl, -⟩ := h3 h0
    rw [hb] at e3
    obtain rfl := Option.some.inj e3
    rcases hg.2 with h5 | ⟨k, h5, h6⟩
    · rw [h5]; exact h4 _ hb h0
    · rw [h5]
      intro e4
      have e5 := Option.some.inj e4
      simp only at e5 hbl
      omega
/-- One more row. -/
theorem PL.step {w w' : World} {base : Nat} {v v' x : Value} {L : List (List Int)} {l : List Int} {V : List Value} (hV : V.length = L.length) (hr : ∀ k, k < L.length → RowAp w v (V.getD k undef) (L.getD k [])) (hx : RowAp w v x l) (hO : SOwn w' base v' (V ++ [x])) (hg : Grew w w' v v') : PL w' base v' (L ++ [l]) := by
  refine ⟨V ++ [x], by simp [hV], hO, fun k hk => ?_⟩
  rw [List.length_append, List.length_singleton] at hk
  rcases Nat.lt_or_ge k L.length with h | h
  · have h1 := (hr k h).grew hg
    rw [show (V ++ [x]).getD k undef = V.getD k undef by simp [List.getD_eq_getElem?_getD, List.getElem?_append_left (show k < V.length by omega)], show (L ++ [l]).getD k [] = L.getD k [] by simp [List.getD_eq_getElem?_getD, List.getElem?_append_left h]]
    exact h1
  · obtain rfl : k = L.length := by omega
    rw [show (V ++ [x]).getD L.length undef = x by rw [← hV]; simp [List.getD_eq_getElem?_getD], show (L ++ [l]).getD L.length [] = l by simp [List.getD_eq_getElem?_getD]]
    exact hx.grew hg
theorem PL.rows {w : World} {base : Nat} {v : Value} {L : List (List Int)} (h : PL w base v L) : ∃ A c, v = .slice A L.length c ∧ L.length ≤ c ∧ c ≤ 9223372036854775807 ∧ RowsRd w A L := by
  obtain ⟨V, hV, hO, hr⟩ := h.ex
  obtain ⟨A, c, rfl, h1, h2, h3⟩ := hO.shape
  rw [hV] at h1 h3 ⊢
  refine ⟨A, c, rfl, h1, h2, V, hV, h3, fun k hk => ?_⟩
  obtain ⟨A2, c2, e, h1, h2, h3, h4⟩ := hr k hk
  exact ⟨A2, c2, e, h1, h2, h3⟩
theorem rowAp_own {w : World} {B : Nat} {v x : Value} {l : List Int} (h : IOwn w B x l) (hv : ∀ g, v.ownBlock = some g → g < B) : RowAp w v x l := by
  obtain ⟨A, c, rfl, h1, h2, h3⟩ := h.shape
  refine ⟨A, c, rfl, h1, h2, h3, fun b e h0 e2 => ?_⟩
  have h4 := hv _ e2
  subst e
  have h5 := (World.ownsRow.lt h b.block (by simp [Value.ownBlock])).1
  omega
section
variable {o : Oper} {a : Act} {Q : Exit → Act → World → Prop}
theorem src_many {w : World} {A : Option Addr} {m : List Int} {n c : Nat} (hn : m.length = n) (hm : Rd w w.heap.size A n (fun k => .int .i64 (m.getD k 0))) : Src Tryz.prog 1 25 (.slice A n c) n (icells m) w := by
  subst hn
  have h1 := src_rd (P := Tryz.prog) w (size := 1) (tx := 25) (n := m.length) (c := c) (A := A) (f := fun k => .int .i64 (m.getD k 0)) Tryz.underlying25 (by rw [Nat.mul_one]; exact hm) (by omega) (fun k _ => rfl)
  have e : (List.range (m.length * 1)).map (fun k => Value.int .i64 (m.getD k 0)) = icells m := by
    apply List.ext_getElem?
    intro k
    by_cases hk : k < m.length
    · rw [icells_get m k hk]
      simp [hk]
    · simp [icells, hk]
  rw [e] at h1
  exact h1
theorem wp_app_many {K : Act → World → Prop} (s x : Operand) (ho : o.op = .call { callee := .builtin .append, args := #[s, x], argTypes := #[25, 25] })
    (base : Nat) {w : World} (v : Value) (l : List Int) (hs : a.eval s = v) (hown : IOwn w base v l) (A : Option Addr) (m : List Int) (n c : Nat) (hn : m.length = n) (hm : Rd w w.heap.size A n (fun k => .int .i64 (m.getD k 0)))
    (hx : a.eval x = .slice A n c) (h47 : l.length + n ≤ 1000000) (hbase : base ≤ w.heap.size)
    (h : ∀ v' w', IOwn w' base v' (l ++ m) → Grew w w' v v' → K (a.put o.dst v') w') : Oper.wp Tryz.prog o a w K Q := by
  have hsrc := src_many (c := c) hn hm
  subst hn
  obtain ⟨v', w', hrun, h2, h3⟩ := run_append_own_src (P := Tryz.prog) w base 25 25 o.type 3 iInfo (.int .i64 0) 1 8 Tryz.underlying25 iInfo_eq iInfo_zero iInfo_size iInfo_bytes rfl v l.length (icells l) hown _ m.length (icells m) hsrc (by simp only [maxLen]; omega) (by omega) hbase
  unfold Oper.wp execOp
  simp only [ho, resolve, invoke, builtin, Sem.run_bind, Sem.run_pure, Result.andThen_ok, List.map_toArray, List.map_cons, List.map_nil, hs, hx, hrun]
  refine h v' w' ?_ h3
  show World.ownsRow w' base 3 1 v' (l ++ m).length (icells (l ++ m))
  rw [icells_append, List.length_append]
  exact h2
theorem wp_app_slc {K : Act → World → Prop} (s x : Operand) (ho : o.op = .call { callee := .builtin .append, args := #[s, x], argTypes := #[24, 24] })
    (base : Nat) {w : World} (v : Value) (l : List Value) (hs : a.eval s = v) (hown : SOwn w base v l) (y : Value) (hy : y.oneCell' = true) {g : Nat} {t : TypeId} (hg : Blk w g t #[y])
    (hx : a.eval x = .slice (some ⟨g, 0, none⟩) 1 1) (h47 : l.length ≤ 1000) (hbase : base ≤ w.heap.size)
    (h : ∀ v' w', SOwn w' base v' (l ++ [y]) → Grew w w' v v' → K (a.put o.dst v') w') : Oper.wp Tryz.prog o a w K Q := by
  obtain ⟨v', w', hrun, h2, h3⟩ := run_append_own_src (P := Tryz.prog) w base 24 24 o.type 25 isInfo (.slice none 0 0) 1 24 Tryz.underlying24 isInfo_eq isInfo_zero isInfo_size isInfo_bytes rfl v l.length l hown _ 1 [y] (src_slc y hy hg) (by simp only [maxLen]; omega) (by omega) hbase
  unfold Oper.wp execOp
  simp only [ho, resolve, invoke, builtin, Sem.run_bind, Sem.run_pure, Result.andThen_ok, List.map_toArray, List.map_cons, List.map_nil, hs, hx, hrun]
  refine h v' w' ?_ h3
  show World.ownsRow w' base 25 1 v' (l ++ [y]).length (l ++ [y])
  rw [List.length_append]
  exact h2
theorem wp_build0 {K : Act → World → Prop} {w : World} (ho : o.op = .buildSlice 25 0 #[])
    (h : ∀ w', IOwn w' w.heap.size (.slice (some ⟨w.heap.size, 0, none⟩) 0 0) [] → Below w.heap.size w w' → w.heap.size < w'.heap.size → K (a.put o.dst (.slice (some ⟨w.heap.size, 0, none⟩) 0 0)) w') : Oper.wp Tryz.prog o a w K Q := by
  have h1 := h (w.alloc (.cells #[] 3)) (iown_none w) ((Below.refl _ _).alloc (Nat.le_refl _) _) (by simp)
  obtain ⟨dst, op, ty, pos, aft, gd⟩ := o
  simp only at ho
  subst ho
  go_simp
  exact h1
theorem wp_build1s {K : Act → World → Prop} {w : World} (x : Tmp) (ho : o.op = .buildSlice 24 1 #[(0, .tmp x)]) (A : Option Addr) (n c : Nat) (hx : a.tmps.getD x undef = .slice A n c)
    (h : ∀ w', Blk w' w.heap.size 25 #[.slice A n c] → Below w.heap.size w w' → K (a.put o.dst (.slice (some ⟨w.heap.size, 0, none⟩) 1 1)) w') : Oper.wp Tryz.prog o a w K Q := by
  have h1 := h (w.alloc (.cells #[.slice A n c] 25)) (Blk.new _ _ _) ((Below.refl _ _).alloc (Nat.le_refl _) _)
  have hx' : a.tmps[x]?.getD undef = .slice A n c := by simpa using hx
  obtain ⟨dst, op, ty, pos, aft, gd⟩ := o
  simp only at ho
  subst ho
  go_simp
  exact h1
end
end Go.Proofs.YtkkcbkfpaoldmaaGreatDoor

/- Walk: perms57. -/
namespace Go.Proofs.YtkkcbkfpaoldmaaGreatDoor
open Go Go.RowKit Go.Shelf
attribute [local go_sem] Oper.semAt_some

/-- The rows that come of the first k shorter ones. -/
def flatP (n k : Nat) : List (List Int) := ((permsL n).take k).flatMap fun p => (List.range (n + 1)).map fun i => insAt p n i
theorem flatP_succ (n k : Nat) (h : k < (permsL n).length) : flatP n (k + 1) = flatP n k ++ (List.range (n + 1)).map fun i => insAt ((permsL n).getD k []) n i := by
  unfold flatP
  rw [List.take_add_one, List.getElem?_eq_getElem h, List.flatMap_append]
  simp [List.getD_eq_getElem?_getD, List.getElem?_eq_getElem h]
theorem flatP_all (n : Nat) : flatP n (permsL n).length = permsL (n + 1) := by
  unfold flatP
  rw [List.take_length]
  rfl
theorem permsL_facts : ∀ n, n ≤ 5 → (permsL n).length ≤ 120 ∧ 0 < (permsL n).length ∧ ∀ p ∈ permsL n, p.length = n
  | 0, _ => by decide +kernel
  | 1, _ => by decide +kernel
  | 2, _ => by decide +kernel
  | 3, _ => by decide +kernel
  | 4, _ => by decide +kernel
  | 5, _ => by decide +kernel
  | n + 6, h => by omega
theorem flatP_len (n k : Nat) (hn : n ≤ 4) : (flatP n k).length ≤ 120 := by
  have h := (permsL_facts (n + 1) (by omega)).1
  rw [← flatP_all] at h
  refine Nat.le_trans ?_ h
  unfold flatP
  rw [List.take_length]
  conv => rhs; rw [← List.take_append_drop k (permsL n), List.flatMap_append, List.length_append]
  omega
def PermPost (n : Nat) (w : World) (e : Ending) (w' : World) : Prop := ∃ A c N, e = .returned (.slice A N c) ∧ N = (permsL n).length ∧ N ≤ c ∧ RowsRd w' A (permsL n) ∧ Below w.heap.size w w'
set_option maxRecDepth 100000 in
set_option linter.unusedSimpArgs false in
set_option linter.unusedVariables false in
set_option maxHeartbeats 4000000 in
theorem perms57_zero (w : World) : Calls Tryz.prog 15 #[.int .i64 0] w (PermPost 0 w) := by
  go_enter Tryz.func15, Tryz.ntmps15
  go_wp2_with fail
  go_ret
  refine ⟨_, _, _, rfl, rfl, Nat.le_refl _, ⟨[.slice none 0 0], rfl, ?_, fun k hk => ?_⟩, (Below.refl _ w).alloc (Nat.le_refl _) _⟩
  · exact Rd.of_blk (Blk.new _ _ _) (Blk.new _ _ _).lt fun k hk => by
      obtain rfl : k = 0 := by simp [permsL] at hk; omega
      rfl
  · obtain rfl : k = 0 := by simp [permsL] at hk; omega
    exact ⟨none, 0, rfl, by simp [permsL], by omega, Rd.zero⟩
set_option maxRecDepth 100000 in
set_option linter.unusedSimpArgs false in
set_option linter.unusedVariables false in
set_option maxHeartbeats 4000000 in
theorem perms57_succ (n : Nat) (hn : n ≤ 4) (HI : ∀ W, Calls Tryz.prog 15 #[.int .i64 n] W (PermPost n W)) (w : World) : Calls Tryz.prog 15 #[.int .i64 ((n + 1 : Nat) : Int)] w (PermPost (n + 1) w) := by
  have HIH := Lib.hid HI
  obtain ⟨N, hN⟩ : ∃ N, N = n + 1 := ⟨_, rfl⟩
  rw [← hN]
  have hN1 : (N : Int) - 1 = (n : Int) := by omega
  have g0 : ((N : Int) == 0) = false := beq_eq_false_iff_ne.2 (by omega)
  have g0n : (N == 0) = false := beq_eq_false_iff_ne.2 (by omega)
  have g0p : ¬ N = 0 := by omega
  have hw1 : wrap64 ((N : Int) - 1) = (n : Int) := by rw [hN1]; exact wrap_in _ (by omega)
  have hw2 : IntKind.i64.wrap (n : Int) = (n : Int) := by rw [IntKind.wrap_i64]; omega
  have HNN := Lib.hid hN
  clear HI hN
  go_enter Tryz.func15, Tryz.ntmps15
  go_wp2_with fail
  refine (HIH.out w).mono ?_
  rintro e w1 ⟨A1, c1, M, rfl, hM, hMc, hR1, hb1⟩
  have hM1 := (permsL_facts n (by omega)).1
  rw [← hM] at hM1
  have HM := Lib.hid hM
  have HR1 := Lib.hid hR1
  have HB1 := Lib.hid hb1
  clear hM hR1 hb1 HIH
  go_wp2_with fail
  go_loopw [2, 13] (fun v i wr => ∃ k : Nat, k ≤ M ∧ i = .int .i64 k ∧ PL wr w1.heap.size v (flatP n k) ∧ Below w1.heap.size w1 wr) (fun _ i _ => M - (intOf i).toNat)
  case atStart => exact ⟨0, Nat.zero_le _, rfl, PL.nil _ _, Below.refl _ _⟩
  case round =>
    obtain ⟨k, hk, rfl, hP, hB⟩ := hrel
    have HP := Lib.hid hP
    have HB := Lib.hid hB
    clear hP hB
    rcases Nat.lt_or_ge k M with h5 | h5
    · have g5 : decide ((k : Int) < (M : Int)) = true := decide_eq_true (by omega)
      have g5n : decide (k < M) = true := decide_eq_true h5
      obtain ⟨b, off, Ap, cp, rfl, hbl, hcell1, hpc, hpm, hRp⟩ := HR1.out.at_ (k := k) (by rw [← HM.out]; exact h5)
      have hcell := (HB.out.cell (p := ⟨b, off + k, none⟩) hbl).trans hcell1
      clear hcell1
      have hpl : ((permsL n).getD k []).length = n := (permsL_facts n (by omega)).2.2 _ (by
        rw [List.getD_eq_getElem?_getD, List.getElem?_eq_getElem (by rw [← HM.out]; exact h5)]
        exact List.getElem_mem _)
      obtain ⟨p, hp⟩ : ∃ p, p = (permsL n).getD k [] := ⟨_, rfl⟩
      rw [← hp] at hpl hpc hRp hcell
      rw [hpl] at hpc hRp hcell
      have HPP := Lib.hid hp
      have HRP := Lib.hid (show ∀ W, Below w1.heap.size w1 W → Rd W W.heap.size Ap n (fun j => .int .i64 (p.getD j 0)) from fun W hW => by
        exact (hRp.below hW).more hW.size)
      clear hRp hp
      go_wp2_with fail
      go_loopw [2, 18] (fun v i wr => ∃ j : Nat, j ≤ N ∧ i = .int .i64 j ∧ PL wr w1.heap.size v (flatP n k ++ (List.range j).map (fun i => insAt p n i)) ∧ Below w1.heap.size w1 wr) (fun _ i _ => N - (intOf i).toNat)
      case atStart => exact ⟨0, Nat.zero_le _, rfl, by simpa using HP.out, HB.out⟩
      case round =>
        clear HP HB hcell
        obtain ⟨j, hj, rfl, hP, hB⟩ := hrel
        have HPL := Lib.hid hP
        have HBB := Lib.hid hB
        clear hP hB
        rcases Nat.lt_or_ge j N with h6 | h6
        · have g6 : decide ((j : Int) < (N : Int)) = true := decide_eq_true (by omega)
          have g6n : decide (j < N) = true := decide_eq_true h6
          have hjn : j ≤ n := by omega
          have hsl1 : ∀ W : World, (Instr.slice 25 (.slice Ap n cp) none (some (.int .i64 (j : Int))) none).run Tryz.prog W = .ok (.slice (partA Ap cp 0) j cp) W := slice_hi Ap n cp j hjn hpc
          have hsl2 : ∀ W : World, (Instr.slice 25 (.slice Ap n cp) (some (.int .i64 (j : Int))) none none).run Tryz.prog W = .ok (.slice (partA Ap cp j) (n - j) (cp - j)) W := slice_lo Ap n cp j hjn hpc
          have hl1 : (p.take j).length = j := by rw [List.length_take, hpl]; omega
          have hl2 : (p.drop j).length = n - j := by rw [List.length_drop, hpl]
          have HS1 := Lib.hid (show ∀ W, Below w1.heap.size w1 W → Rd W W.heap.size (partA Ap cp 0) j (fun k => .int .i64 ((p.take j).getD k 0)) from fun W hW => by
            have h := partA_rd (i := 0) (j := j) (HRP.out W hW) (Nat.zero_le _) hjn hpc
            rw [Nat.sub_zero] at h
            refine Rd.congr h fun k hk => ?_
            rw [Nat.zero_add]
            simp [List.getD_eq_getElem?_getD, List.getElem?_take, hk])
          have HS2 := Lib.hid (show ∀ W, Below w1.heap.size w1 W → Rd W W.heap.size (partA Ap cp j) (n - j) (fun k => .int .i64 ((p.drop j).getD k 0)) from fun W hW => by
            have h := partA_rd (i := j) (j := n) (HRP.out W hW) hjn (Nat.le_refl _) hpc
            refine Rd.congr h fun k hk => ?_
            simp)
          have HVL := Lib.hid (show ∀ g, u2.ownBlock = some g → g < wr.heap.size from fun g e => by
            obtain ⟨V, -, hVO, -⟩ := HPL.out.ex
            exact (World.ownsRow.lt hVO g e).2)
          have hfl := flatP_len n k hn
          go_wp2_with fail
          refine wp_region_held_drew (S := fun _ => True) (by kernel_rfl) trivial (fun hS => ?_)
          have HB0 := Lib.hid (show Below wr.heap.size wr wr.drew from (Below.refl _ _).drew)
          clear hS
          generalize wr.drew = W0 at HB0 ⊢
          refine wpAnyH_take (i := 0) (v := u2) rfl (by kernel_rfl) (by kernel_rfl) (by kernel_rfl) (fun _ _ _ h => h) (Or.inl ⟨by rfl, fun W' hS' => by go_simp⟩) trivial ?_
          simp only [Act.put, List.getElem_toArray, List.getElem_cons_zero, List.getElem_cons_succ, List.setIfInBounds_toArray, List.set_cons_zero, List.set_cons_succ]
          refine wpAnyH_take (i := 2) (v := (.slice Ap n cp)) rfl (by kernel_rfl) (by kernel_rfl) (by kernel_rfl) (fun _ _ _ h => h) (Or.inl ⟨by rfl, fun W' hS' => by go_simp⟩) trivial ?_
          simp only [Act.put, List.getElem_toArray, List.getElem_cons_zero, List.getElem_cons_succ, List.setIfInBounds_toArray, List.set_cons_zero, List.set_cons_succ]
          refine wpAnyH_take (i := 3) (v := (.int .i64 j)) rfl (by kernel_rfl) (by kernel_rfl) (by kernel_rfl) (fun _ _ _ h => h) (Or.inl ⟨by rfl, fun W' hS' => by go_simp⟩) trivial ?_
          simp only [Act.put, List.getElem_toArray, List.getElem_cons_zero, List.getElem_cons_succ, List.setIfInBounds_toArray, List.set_cons_zero, List.set_cons_succ]
          refine wpAnyH_take (i := 4) (v := (.slice (partA Ap cp 0) j cp)) rfl (by kernel_rfl) (by kernel_rfl) (by kernel_rfl) (fun _ _ _ h => h) (Or.inl ⟨by rfl, fun W' hS' => by have q := hsl1 W'; go_simp⟩) trivial ?_
          simp only [Act.put, List.getElem_toArray, List.getElem_cons_zero, List.getElem_cons_succ, List.setIfInBounds_toArray, List.set_cons_zero, List.set_cons_succ]
          refine wpAnyH_take (i := 6) (v := (.int .i64 N)) rfl (by kernel_rfl) (by kernel_rfl) (by kernel_rfl) (fun _ _ _ h => h) (Or.inl ⟨by rfl, fun W' hS' => by go_simp⟩) trivial ?_
          simp only [Act.put, List.getElem_toArray, List.getElem_cons_zero, List.getElem_cons_succ, List.setIfInBounds_toArray, List.set_cons_zero, List.set_cons_succ]
          refine wpAnyH_take (i := 7) (v := (.int .i64 n)) rfl (by kernel_rfl) (by kernel_rfl) (by kernel_rfl) (fun _ _ _ h => h) (Or.inl ⟨by rfl, fun W' hS' => by have q := hw2; go_simp⟩) trivial ?_
          simp only [Act.put, List.getElem_toArray, List.getElem_cons_zero, List.getElem_cons_succ, List.setIfInBounds_toArray, List.set_cons_zero, List.set_cons_succ]
          refine wpAnyH_take (i := 10) (v := (.slice Ap n cp)) rfl (by kernel_rfl) (by kernel_rfl) (by kernel_rfl) (fun _ _ _ h => h) (Or.inl ⟨by rfl, fun W' hS' => by go_simp⟩) trivial ?_
          simp only [Act.put, List.getElem_toArray, List.getElem_cons_zero, List.getElem_cons_succ, List.setIfInBounds_toArray, List.set_cons_zero, List.set_cons_succ]
          refine wpAnyH_take (i := 11) (v := (.int .i64 j)) rfl (by kernel_rfl) (by kernel_rfl) (by kernel_rfl) (fun _ _ _ h => h) (Or.inl ⟨by rfl, fun W' hS' => by go_simp⟩) trivial ?_
          simp only [Act.put, List.getElem_toArray, List.getElem_cons_zero, List.getElem_cons_succ, List.setIfInBounds_toArray, List.set_cons_zero, List.set_cons_succ]
          refine wpAnyH_take (i := 12) (v := (.slice (partA Ap cp j) (n - j) (cp - j))) rfl (by kernel_rfl) (by kernel_rfl) (by kernel_rfl) (fun _ _ _ h => h) (Or.inl ⟨by rfl, fun W' hS' => by have q := hsl2 W'; go_simp⟩) trivial ?_
          simp only [Act.put, List.getElem_toArray, List.getElem_cons_zero, List.getElem_cons_succ, List.setIfInBounds_toArray, List.set_cons_zero, List.set_cons_succ]
          refine wpAnyH_ready (rs := [1, 8]) (by kernel_rfl) (by simp) ?_
          refine AllReadyH.cons rfl (fun Kq hKq => ?_) (AllReadyH.cons rfl (fun Kq hKq => ?_) (AllReadyH.nil))
          · skip
            simp only [List.getElem_toArray, List.getElem_cons_zero, List.getElem_cons_succ]
            rw [if_pos (by rfl)]
            refine wp_build0 rfl ?_
            intro W1 hO hb hz
            have HB1 := Lib.hid (HB0.out.trans (hb.mono HB0.out.size))
            have HO1 := Lib.hid (own_sub hO HB0.out.size)
            obtain ⟨g22, hg22⟩ : ∃ g, g = W0.heap.size := ⟨_, rfl⟩
            rw [← hg22] at HO1 ⊢
            clear hO hb hz hg22
            refine hKq.out _ _ trivial (fun _ => ?_)
            clear hKq Kq
            simp only [Act.put, List.getElem_toArray, List.getElem_cons_zero, List.getElem_cons_succ, List.setIfInBounds_toArray, List.set_cons_zero, List.set_cons_succ]
            refine wpAnyH_ready (rs := [5, 8]) (by kernel_rfl) (by simp) ?_
            refine AllReadyH.cons rfl (fun Kq hKq => ?_) (AllReadyH.cons rfl (fun Kq hKq => ?_) (AllReadyH.nil))
            · skip
              simp only [List.getElem_toArray, List.getElem_cons_zero, List.getElem_cons_succ]
              rw [if_pos (by rfl)]
              refine wp_app_many _ _ rfl wr.heap.size (.slice (some ⟨g22, 0, none⟩) 0 0) [] rfl HO1.out (partA Ap cp 0) (p.take j) j cp hl1 (HS1.out W1 (HBB.out.trans (HB1.out.mono HBB.out.size))) rfl (by simp; omega) HB1.out.size ?_
              intro v5 W2 hO hg
              rw [List.nil_append] at hO
              have hb : Below wr.heap.size W1 W2 := hg.below HB1.out.size fun g e => (World.ownsRow.lt HO1.out g e).1
              have HB2 := Lib.hid (HB1.out.trans hb)
              have HO2 := Lib.hid hO
              clear hO hg hb
              refine hKq.out _ _ trivial (fun _ => ?_)
              clear hKq Kq
              simp only [Act.put, List.getElem_toArray, List.getElem_cons_zero, List.getElem_cons_succ, List.setIfInBounds_toArray, List.set_cons_zero, List.set_cons_succ]
              refine wpAnyH_ready (rs := [8]) (by kernel_rfl) (by simp) ?_
              refine AllReadyH.cons rfl (fun Kq hKq => ?_) (AllReadyH.nil)
              simp only [List.getElem_toArray, List.getElem_cons_zero, List.getElem_cons_succ]
              rw [if_pos (by rfl)]
              refine wp_build1 28 rfl (n : Int) rfl ?_
              intro W3 hG hb
              have HB3 := Lib.hid (HB2.out.trans (hb.mono HB2.out.size))
              obtain ⟨g29, hg29⟩ : ∃ g, g = W2.heap.size := ⟨_, rfl⟩
              rw [← hg29] at hG ⊢
              have HG3 := Lib.hid hG
              have hne : ∀ g, (v5 : Value).ownBlock = some g → g ≠ g29 := fun g e => by
                have := (World.ownsRow.lt HO2.out g e).2
                omega
              have HO3 := Lib.hid (HO2.out.below hb)
              clear hG hb hg29
              refine hKq.out _ _ trivial (fun _ => ?_)
              clear hKq Kq
              simp only [Act.put, List.getElem_toArray, List.getElem_cons_zero, List.getElem_cons_succ, List.setIfInBounds_toArray, List.set_cons_zero, List.set_cons_succ]
              refine wpAnyH_ready (rs := [9]) (by kernel_rfl) (by simp) ?_
              refine AllReadyH.cons rfl (fun Kq hKq => ?_) (AllReadyH.nil)
              simp only [List.getElem_toArray, List.getElem_cons_zero, List.getElem_cons_succ]
              rw [if_pos (by rfl)]
              refine wp_app_int _ _ rfl wr.heap.size v5 (p.take j) rfl HO3.out (n : Int) HG3.out rfl (by simp; omega) HB3.out.size ?_
              intro v9 W4 hO hg
              have hb : Below wr.heap.size W3 W4 := hg.below HB3.out.size fun g e => (World.ownsRow.lt HO3.out g e).1
              have HB4 := Lib.hid (HB3.out.trans hb)
              have HO4 := Lib.hid hO
              clear hO hg hb
              refine hKq.out _ _ trivial (fun _ => ?_)
              clear hKq Kq
              simp only [Act.put, List.getElem_toArray, List.getElem_cons_zero, List.getElem_cons_succ, List.setIfInBounds_toArray, List.set_cons_zero, List.set_cons_succ]
              refine wpAnyH_ready (rs := [13]) (by kernel_rfl) (by simp) ?_
              refine AllReadyH.cons rfl (fun Kq hKq => ?_) (AllReadyH.nil)
              simp only [List.getElem_toArray, List.getElem_cons_zero, List.getElem_cons_succ]
              rw [if_pos (by rfl)]
              refine wp_app_many _ _ rfl wr.heap.size v9 (p.take j ++ [(n : Int)]) rfl HO4.out (partA Ap cp j) (p.drop j) (n - j) (cp - j) hl2 (HS2.out W4 (HBB.out.trans (HB4.out.mono HBB.out.size))) rfl (by simp; omega) HB4.out.size ?_
              intro v13 W5 hO hg
              rw [List.append_assoc, List.singleton_append] at hO
              rw [show p.take j ++ (n : Int) :: p.drop j = insAt p n j from rfl] at hO
              have hb : Below wr.heap.size W4 W5 := hg.below HB4.out.size fun g e => (World.ownsRow.lt HO4.out g e).1
              have HB5 := Lib.hid (HB4.out.trans hb)
              have HO5 := Lib.hid hO
              clear hO hg hb
              obtain ⟨A34, c34, e34, -⟩ := HO5.out.shape
              obtain ⟨n34, hn34⟩ : ∃ m, m = (insAt p n j).length := ⟨_, rfl⟩
              rw [← hn34] at e34
              subst e34
              clear hn34
              refine hKq.out _ _ trivial (fun _ => ?_)
              clear hKq Kq
              simp only [Act.put, List.getElem_toArray, List.getElem_cons_zero, List.getElem_cons_succ, List.setIfInBounds_toArray, List.set_cons_zero, List.set_cons_succ]
              refine wpAnyH_ready (rs := [14]) (by kernel_rfl) (by simp) ?_
              refine AllReadyH.cons rfl (fun Kq hKq => ?_) (AllReadyH.nil)
              simp only [List.getElem_toArray, List.getElem_cons_zero, List.getElem_cons_succ]
              rw [if_pos (by rfl)]
              refine wp_build1s 34 rfl A34 n34 c34 rfl ?_
              intro W6 hG hb
              have HB6 := Lib.hid (HB5.out.trans (hb.mono HB5.out.size))
              have HO6 := Lib.hid (HO5.out.below hb)
              obtain ⟨g35, hg35⟩ : ∃ g, g = W5.heap.size := ⟨_, rfl⟩
              rw [← hg35] at hG ⊢
              have HG6 := Lib.hid hG
              clear hG hb hg35
              refine hKq.out _ _ trivial (fun _ => ?_)
              clear hKq Kq
              simp only [Act.put, List.getElem_toArray, List.getElem_cons_zero, List.getElem_cons_succ, List.setIfInBounds_toArray, List.set_cons_zero, List.set_cons_succ]
              refine wpAnyH_ready (rs := [15]) (by kernel_rfl) (by simp) ?_
              refine AllReadyH.cons rfl (fun Kq hKq => ?_) (AllReadyH.nil)
              simp only [List.getElem_toArray, List.getElem_cons_zero, List.getElem_cons_succ]
              rw [if_pos (by rfl)]
              obtain ⟨V, hV, hVO, hVr⟩ := (PL.below HPL.out HB6.out).ex
              refine wp_app_slc _ _ rfl w1.heap.size u2 V rfl hVO (.slice A34 n34 c34) rfl HG6.out rfl (by rw [hV]; simp; omega) (by have h1 := HB6.out.size; have h2 := HBB.out.size; omega) ?_
              intro v36 W7 hO hg
              have hfin : PL W7 w1.heap.size v36 (flatP n k ++ (List.range (j + 1)).map (fun i => insAt p n i)) ∧ Below w1.heap.size w1 W7 := by
                have hx : RowAp W6 u2 (.slice A34 n34 c34) (insAt p n j) := rowAp_own HO6.out HVL.out
                have h1 := PL.step hV hVr hx hO hg
                rw [List.append_assoc, ← List.map_singleton (f := fun i => insAt p n i), ← List.map_append, ← List.range_succ] at h1
                exact ⟨h1, (HBB.out.trans (HB6.out.mono HBB.out.size)).trans (hg.below (by have h1 := HB6.out.size; have h2 := HBB.out.size; omega) fun g e => (World.ownsRow.lt hVO g e).1)⟩
              have HFIN := Lib.hid hfin
              clear hVO hVr hO hg hfin
              refine hKq.out _ _ trivial (fun _ => ?_)
              clear hKq Kq
              simp only [Act.put, List.getElem_toArray, List.getElem_cons_zero, List.getElem_cons_succ, List.setIfInBounds_toArray, List.set_cons_zero, List.set_cons_succ]
              refine wpAnyH_ready (rs := [16]) (by kernel_rfl) (by simp) ?_
              refine AllReadyH.cons rfl (fun Kq hKq => ?_) (AllReadyH.nil)
              simp only [List.getElem_toArray, List.getElem_cons_zero, List.getElem_cons_succ]
              go_simp
              refine hKq.out _ _ trivial (fun _ => ?_)
              clear hKq Kq
              refine wpAnyH_done (by kernel_rfl) ?_ _
              go_wp2_with fail
              go_roundw
              case rel => exact ⟨j + 1, by omega, by go_num, HFIN.out.1, HFIN.out.2⟩
              case measure => simp [intOf]; omega
            · skip
              simp only [List.getElem_toArray, List.getElem_cons_zero, List.getElem_cons_succ]
              rw [if_pos (by rfl)]
              refine wp_build1 28 rfl (n : Int) rfl ?_
              intro W2 hG hb
              have HB2 := Lib.hid (HB1.out.trans (hb.mono HB1.out.size))
              obtain ⟨g29, hg29⟩ : ∃ g, g = W1.heap.size := ⟨_, rfl⟩
              rw [← hg29] at hG ⊢
              have HG2 := Lib.hid hG
              have hne : ∀ g, ((.slice (some ⟨g22, 0, none⟩) 0 0) : Value).ownBlock = some g → g ≠ g29 := fun g e => by
                have := (World.ownsRow.lt HO1.out g e).2
                omega
              have HO2 := Lib.hid (HO1.out.below hb)
              clear hG hb hg29
              refine hKq.out _ _ trivial (fun _ => ?_)
              clear hKq Kq
              simp only [Act.put, List.getElem_toArray, List.getElem_cons_zero, List.getElem_cons_succ, List.setIfInBounds_toArray, List.set_cons_zero, List.set_cons_succ]
              refine wpAnyH_ready (rs := [5]) (by kernel_rfl) (by simp) ?_
              refine AllReadyH.cons rfl (fun Kq hKq => ?_) (AllReadyH.nil)
              simp only [List.getElem_toArray, List.getElem_cons_zero, List.getElem_cons_succ]
              rw [if_pos (by rfl)]
              refine wp_app_many _ _ rfl wr.heap.size (.slice (some ⟨g22, 0, none⟩) 0 0) [] rfl HO2.out (partA Ap cp 0) (p.take j) j cp hl1 (HS1.out W2 (HBB.out.trans (HB2.out.mono HBB.out.size))) rfl (by simp; omega) HB2.out.size ?_
              intro v5 W3 hO hg
              rw [List.nil_append] at hO
              have hb : Below wr.heap.size W2 W3 := hg.below HB2.out.size fun g e => (World.ownsRow.lt HO2.out g e).1
              have HB3 := Lib.hid (HB2.out.trans hb)
              have HO3 := Lib.hid hO
              have HG3 := Lib.hid (HG2.out.grown hg.1 (fun e => hne _ e.symm rfl))
              clear hne
              clear hO hg hb
              refine hKq.out _ _ trivial (fun _ => ?_)
              clear hKq Kq
              simp only [Act.put, List.getElem_toArray, List.getElem_cons_zero, List.getElem_cons_succ, List.setIfInBounds_toArray, List.set_cons_zero, List.set_cons_succ]
              refine wpAnyH_ready (rs := [9]) (by kernel_rfl) (by simp) ?_
              refine AllReadyH.cons rfl (fun Kq hKq => ?_) (AllReadyH.nil)
              simp only [List.getElem_toArray, List.getElem_cons_zero, List.getElem_cons_succ]
              rw [if_pos (by rfl)]
              refine wp_app_int _ _ rfl wr.heap.size v5 (p.take j) rfl HO3.out (n : Int) HG3.out rfl (by simp; omega) HB3.out.size ?_
              intro v9 W4 hO hg
              have hb : Below wr.heap.size W3 W4 := hg.below HB3.out.size fun g e => (World.ownsRow.lt HO3.out g e).1
              have HB4 := Lib.hid (HB3.out.trans hb)
              have HO4 := Lib.hid hO
              clear hO hg hb
              refine hKq.out _ _ trivial (fun _ => ?_)
              clear hKq Kq
              simp only [Act.put, List.getElem_toArray, List.getElem_cons_zero, List.getElem_cons_succ, List.setIfInBounds_toArray, List.set_cons_zero, List.set_cons_succ]
              refine wpAnyH_ready (rs := [13]) (by kernel_rfl) (by simp) ?_
              refine AllReadyH.cons rfl (fun Kq hKq => ?_) (AllReadyH.nil)
              simp only [List.getElem_toArray, List.getElem_cons_zero, List.getElem_cons_succ]
              rw [if_pos (by rfl)]
              refine wp_app_many _ _ rfl wr.heap.size v9 (p.take j ++ [(n : Int)]) rfl HO4.out (partA Ap cp j) (p.drop j) (n - j) (cp - j) hl2 (HS2.out W4 (HBB.out.trans (HB4.out.mono HBB.out.size))) rfl (by simp; omega) HB4.out.size ?_
              intro v13 W5 hO hg
              rw [List.append_assoc, List.singleton_append] at hO
              rw [show p.take j ++ (n : Int) :: p.drop j = insAt p n j from rfl] at hO
              have hb : Below wr.heap.size W4 W5 := hg.below HB4.out.size fun g e => (World.ownsRow.lt HO4.out g e).1
              have HB5 := Lib.hid (HB4.out.trans hb)
              have HO5 := Lib.hid hO
              clear hO hg hb
              obtain ⟨A34, c34, e34, -⟩ := HO5.out.shape
              obtain ⟨n34, hn34⟩ : ∃ m, m = (insAt p n j).length := ⟨_, rfl⟩
              rw [← hn34] at e34
              subst e34
              clear hn34
              refine hKq.out _ _ trivial (fun _ => ?_)
              clear hKq Kq
              simp only [Act.put, List.getElem_toArray, List.getElem_cons_zero, List.getElem_cons_succ, List.setIfInBounds_toArray, List.set_cons_zero, List.set_cons_succ]
              refine wpAnyH_ready (rs := [14]) (by kernel_rfl) (by simp) ?_
              refine AllReadyH.cons rfl (fun Kq hKq => ?_) (AllReadyH.nil)
              simp only [List.getElem_toArray, List.getElem_cons_zero, List.getElem_cons_succ]
              rw [if_pos (by rfl)]
              refine wp_build1s 34 rfl A34 n34 c34 rfl ?_
              intro W6 hG hb
              have HB6 := Lib.hid (HB5.out.trans (hb.mono HB5.out.size))
              have HO6 := Lib.hid (HO5.out.below hb)
              obtain ⟨g35, hg35⟩ : ∃ g, g = W5.heap.size := ⟨_, rfl⟩
              rw [← hg35] at hG ⊢
              have HG6 := Lib.hid hG
              clear hG hb hg35
              refine hKq.out _ _ trivial (fun _ => ?_)
              clear hKq Kq
              simp only [Act.put, List.getElem_toArray, List.getElem_cons_zero, List.getElem_cons_succ, List.setIfInBounds_toArray, List.set_cons_zero, List.set_cons_succ]
              refine wpAnyH_ready (rs := [15]) (by kernel_rfl) (by simp) ?_
              refine AllReadyH.cons rfl (fun Kq hKq => ?_) (AllReadyH.nil)
              simp only [List.getElem_toArray, List.getElem_cons_zero, List.getElem_cons_succ]
              rw [if_pos (by rfl)]
              obtain ⟨V, hV, hVO, hVr⟩ := (PL.below HPL.out HB6.out).ex
              refine wp_app_slc _ _ rfl w1.heap.size u2 V rfl hVO (.slice A34 n34 c34) rfl HG6.out rfl (by rw [hV]; simp; omega) (by have h1 := HB6.out.size; have h2 := HBB.out.size; omega) ?_
              intro v36 W7 hO hg
              have hfin : PL W7 w1.heap.size v36 (flatP n k ++ (List.range (j + 1)).map (fun i => insAt p n i)) ∧ Below w1.heap.size w1 W7 := by
                have hx : RowAp W6 u2 (.slice A34 n34 c34) (insAt p n j) := rowAp_own HO6.out HVL.out
                have h1 := PL.step hV hVr hx hO hg
                rw [List.append_assoc, ← List.map_singleton (f := fun i => insAt p n i), ← List.map_append, ← List.range_succ] at h1
                exact ⟨h1, (HBB.out.trans (HB6.out.mono HBB.out.size)).trans (hg.below (by have h1 := HB6.out.size; have h2 := HBB.out.size; omega) fun g e => (World.ownsRow.lt hVO g e).1)⟩
              have HFIN := Lib.hid hfin
              clear hVO hVr hO hg hfin
              refine hKq.out _ _ trivial (fun _ => ?_)
              clear hKq Kq
              simp only [Act.put, List.getElem_toArray, List.getElem_cons_zero, List.getElem_cons_succ, List.setIfInBounds_toArray, List.set_cons_zero, List.set_cons_succ]
              refine wpAnyH_ready (rs := [16]) (by kernel_rfl) (by simp) ?_
              refine AllReadyH.cons rfl (fun Kq hKq => ?_) (AllReadyH.nil)
              simp only [List.getElem_toArray, List.getElem_cons_zero, List.getElem_cons_succ]
              go_simp
              refine hKq.out _ _ trivial (fun _ => ?_)
              clear hKq Kq
              refine wpAnyH_done (by kernel_rfl) ?_ _
              go_wp2_with fail
              go_roundw
              case rel => exact ⟨j + 1, by omega, by go_num, HFIN.out.1, HFIN.out.2⟩
              case measure => simp [intOf]; omega
          · skip
            simp only [List.getElem_toArray, List.getElem_cons_zero, List.getElem_cons_succ]
            rw [if_pos (by rfl)]
            refine wp_build1 28 rfl (n : Int) rfl ?_
            intro W1 hG hb
            have HB1 := Lib.hid (HB0.out.trans (hb.mono HB0.out.size))
            obtain ⟨g29, hg29⟩ : ∃ g, g = W0.heap.size := ⟨_, rfl⟩
            rw [← hg29] at hG ⊢
            have HG1 := Lib.hid hG
            clear hG hb hg29
            refine hKq.out _ _ trivial (fun _ => ?_)
            clear hKq Kq
            simp only [Act.put, List.getElem_toArray, List.getElem_cons_zero, List.getElem_cons_succ, List.setIfInBounds_toArray, List.set_cons_zero, List.set_cons_succ]
            refine wpAnyH_ready (rs := [1]) (by kernel_rfl) (by simp) ?_
            refine AllReadyH.cons rfl (fun Kq hKq => ?_) (AllReadyH.nil)
            simp only [List.getElem_toArray, List.getElem_cons_zero, List.getElem_cons_succ]
            rw [if_pos (by rfl)]
            refine wp_build0 rfl ?_
            intro W2 hO hb hz
            have HB2 := Lib.hid (HB1.out.trans (hb.mono HB1.out.size))
            have HO2 := Lib.hid (own_sub hO HB1.out.size)
            obtain ⟨g22, hg22⟩ : ∃ g, g = W1.heap.size := ⟨_, rfl⟩
            rw [← hg22] at HO2 ⊢
            have hne : ∀ g, (Value.slice (some ⟨g22, 0, none⟩) 0 0).ownBlock = some g → g ≠ g29 := fun g e => by
              have e2 : g22 = g := by simpa [Value.ownBlock] using e
              have := HG1.out.lt
              omega
            have HG2 := Lib.hid (HG1.out.below hb HG1.out.lt)
            clear hO hb hz hg22
            refine hKq.out _ _ trivial (fun _ => ?_)
            clear hKq Kq
            simp only [Act.put, List.getElem_toArray, List.getElem_cons_zero, List.getElem_cons_succ, List.setIfInBounds_toArray, List.set_cons_zero, List.set_cons_succ]
            refine wpAnyH_ready (rs := [5]) (by kernel_rfl) (by simp) ?_
            refine AllReadyH.cons rfl (fun Kq hKq => ?_) (AllReadyH.nil)
            simp only [List.getElem_toArray, List.getElem_cons_zero, List.getElem_cons_succ]
            rw [if_pos (by rfl)]
            refine wp_app_many _ _ rfl wr.heap.size (.slice (some ⟨g22, 0, none⟩) 0 0) [] rfl HO2.out (partA Ap cp 0) (p.take j) j cp hl1 (HS1.out W2 (HBB.out.trans (HB2.out.mono HBB.out.size))) rfl (by simp; omega) HB2.out.size ?_
            intro v5 W3 hO hg
            rw [List.nil_append] at hO
            have hb : Below wr.heap.size W2 W3 := hg.below HB2.out.size fun g e => (World.ownsRow.lt HO2.out g e).1
            have HB3 := Lib.hid (HB2.out.trans hb)
            have HO3 := Lib.hid hO
            have HG3 := Lib.hid (HG2.out.grown hg.1 (fun e => hne _ e.symm rfl))
            clear hne
            clear hO hg hb
            refine hKq.out _ _ trivial (fun _ => ?_)
            clear hKq Kq
            simp only [Act.put, List.getElem_toArray, List.getElem_cons_zero, List.getElem_cons_succ, List.setIfInBounds_toArray, List.set_cons_zero, List.set_cons_succ]
            refine wpAnyH_ready (rs := [9]) (by kernel_rfl) (by simp) ?_
            refine AllReadyH.cons rfl (fun Kq hKq => ?_) (AllReadyH.nil)
            simp only [List.getElem_toArray, List.getElem_cons_zero, List.getElem_cons_succ]
            rw [if_pos (by rfl)]
            refine wp_app_int _ _ rfl wr.heap.size v5 (p.take j) rfl HO3.out (n : Int) HG3.out rfl (by simp; omega) HB3.out.size ?_
            intro v9 W4 hO hg
            have hb : Below wr.heap.size W3 W4 := hg.below HB3.out.size fun g e => (World.ownsRow.lt HO3.out g e).1
            have HB4 := Lib.hid (HB3.out.trans hb)
            have HO4 := Lib.hid hO
            clear hO hg hb
            refine hKq.out _ _ trivial (fun _ => ?_)
            clear hKq Kq
            simp only [Act.put, List.getElem_toArray, List.getElem_cons_zero, List.getElem_cons_succ, List.setIfInBounds_toArray, List.set_cons_zero, List.set_cons_succ]
            refine wpAnyH_ready (rs := [13]) (by kernel_rfl) (by simp) ?_
            refine AllReadyH.cons rfl (fun Kq hKq => ?_) (AllReadyH.nil)
            simp only [List.getElem_toArray, List.getElem_cons_zero, List.getElem_cons_succ]
            rw [if_pos (by rfl)]
            refine wp_app_many _ _ rfl wr.heap.size v9 (p.take j ++ [(n : Int)]) rfl HO4.out (partA Ap cp j) (p.drop j) (n - j) (cp - j) hl2 (HS2.out W4 (HBB.out.trans (HB4.out.mono HBB.out.size))) rfl (by simp; omega) HB4.out.size ?_
            intro v13 W5 hO hg
            rw [List.append_assoc, List.singleton_append] at hO
            rw [show p.take j ++ (n : Int) :: p.drop j = insAt p n j from rfl] at hO
            have hb : Below wr.heap.size W4 W5 := hg.below HB4.out.size fun g e => (World.ownsRow.lt HO4.out g e).1
            have HB5 := Lib.hid (HB4.out.trans hb)
            have HO5 := Lib.hid hO
            clear hO hg hb
            obtain ⟨A34, c34, e34, -⟩ := HO5.out.shape
            obtain ⟨n34, hn34⟩ : ∃ m, m = (insAt p n j).length := ⟨_, rfl⟩
            rw [← hn34] at e34
            subst e34
            clear hn34
            refine hKq.out _ _ trivial (fun _ => ?_)
            clear hKq Kq
            simp only [Act.put, List.getElem_toArray, List.getElem_cons_zero, List.getElem_cons_succ, List.setIfInBounds_toArray, List.set_cons_zero, List.set_cons_succ]
            refine wpAnyH_ready (rs := [14]) (by kernel_rfl) (by simp) ?_
            refine AllReadyH.cons rfl (fun Kq hKq => ?_) (AllReadyH.nil)
            simp only [List.getElem_toArray, List.getElem_cons_zero, List.getElem_cons_succ]
            rw [if_pos (by rfl)]
            refine wp_build1s 34 rfl A34 n34 c34 rfl ?_
            intro W6 hG hb
            have HB6 := Lib.hid (HB5.out.trans (hb.mono HB5.out.size))
            have HO6 := Lib.hid (HO5.out.below hb)
            obtain ⟨g35, hg35⟩ : ∃ g, g = W5.heap.size := ⟨_, rfl⟩
            rw [← hg35] at hG ⊢
            have HG6 := Lib.hid hG
            clear hG hb hg35
            refine hKq.out _ _ trivial (fun _ => ?_)
            clear hKq Kq
            simp only [Act.put, List.getElem_toArray, List.getElem_cons_zero, List.getElem_cons_succ, List.setIfInBounds_toArray, List.set_cons_zero, List.set_cons_succ]
            refine wpAnyH_ready (rs := [15]) (by kernel_rfl) (by simp) ?_
            refine AllReadyH.cons rfl (fun Kq hKq => ?_) (AllReadyH.nil)
            simp only [List.getElem_toArray, List.getElem_cons_zero, List.getElem_cons_succ]
            rw [if_pos (by rfl)]
            obtain ⟨V, hV, hVO, hVr⟩ := (PL.below HPL.out HB6.out).ex
            refine wp_app_slc _ _ rfl w1.heap.size u2 V rfl hVO (.slice A34 n34 c34) rfl HG6.out rfl (by rw [hV]; simp; omega) (by have h1 := HB6.out.size; have h2 := HBB.out.size; omega) ?_
            intro v36 W7 hO hg
            have hfin : PL W7 w1.heap.size v36 (flatP n k ++ (List.range (j + 1)).map (fun i => insAt p n i)) ∧ Below w1.heap.size w1 W7 := by
              have hx : RowAp W6 u2 (.slice A34 n34 c34) (insAt p n j) := rowAp_own HO6.out HVL.out
              have h1 := PL.step hV hVr hx hO hg
              rw [List.append_assoc, ← List.map_singleton (f := fun i => insAt p n i), ← List.map_append, ← List.range_succ] at h1
              exact ⟨h1, (HBB.out.trans (HB6.out.mono HBB.out.size)).trans (hg.below (by have h1 := HB6.out.size; have h2 := HBB.out.size; omega) fun g e => (World.ownsRow.lt hVO g e).1)⟩
            have HFIN := Lib.hid hfin
            clear hVO hVr hO hg hfin
            refine hKq.out _ _ trivial (fun _ => ?_)
            clear hKq Kq
            simp only [Act.put, List.getElem_toArray, List.getElem_cons_zero, List.getElem_cons_succ, List.setIfInBounds_toArray, List.set_cons_zero, List.set_cons_succ]
            refine wpAnyH_ready (rs := [16]) (by kernel_rfl) (by simp) ?_
            refine AllReadyH.cons rfl (fun Kq hKq => ?_) (AllReadyH.nil)
            simp only [List.getElem_toArray, List.getElem_cons_zero, List.getElem_cons_succ]
            go_simp
            refine hKq.out _ _ trivial (fun _ => ?_)
            clear hKq Kq
            refine wpAnyH_done (by kernel_rfl) ?_ _
            go_wp2_with fail
            go_roundw
            case rel => exact ⟨j + 1, by omega, by go_num, HFIN.out.1, HFIN.out.2⟩
            case measure => simp [intOf]; omega
        · have g6 : decide ((j : Int) < (N : Int)) = false := decide_eq_false (by omega)
          have g6n : decide (j < N) = false := decide_eq_false (by omega)
          have HP2 := Lib.hid (show PL wr w1.heap.size u2 (flatP n (k + 1)) by
            rw [flatP_succ n k (by rw [← HM.out]; exact h5), ← HPP.out, show n + 1 = j by have := HNN.out; omega]
            exact HPL.out)
          go_wp2_with fail
          go_roundw
          case rel => exact ⟨k + 1, by omega, by go_num, HP2.out, HBB.out⟩
          case measure => simp [intOf]; omega
    · have g5 : decide ((k : Int) < (M : Int)) = false := decide_eq_false (by omega)
      have g5n : decide (k < M) = false := decide_eq_false (by omega)
      have hP := HP.out
      rw [show k = (permsL n).length by have := HM.out; omega, flatP_all] at hP
      obtain ⟨A2, c2, rfl, h1, h2, h3⟩ := hP.rows
      obtain ⟨M2, hM2⟩ : ∃ m, m = (permsL (n + 1)).length := ⟨_, rfl⟩
      have HM2 := Lib.hid hM2
      have HR2 := Lib.hid h3
      rw [← hM2] at h1 ⊢
      clear hP h3 hM2
      go_wp2_with fail
      go_ret
      exact ⟨A2, c2, M2, rfl, by rw [HNN.out]; exact HM2.out, h1, by rw [HNN.out]; exact HR2.out, HB1.out.trans (HB.out.mono HB1.out.size)⟩
theorem perms57_ok : ∀ n : Nat, n ≤ 5 → ∀ w, Calls Tryz.prog 15 #[.int .i64 (n : Int)] w (PermPost n w)
  | 0, _, w => perms57_zero w
  | n + 1, h, w => perms57_succ n (by omega) (perms57_ok n (by omega)) w
end Go.Proofs.YtkkcbkfpaoldmaaGreatDoor

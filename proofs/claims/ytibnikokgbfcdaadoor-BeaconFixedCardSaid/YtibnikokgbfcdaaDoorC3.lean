/- Walk: chain.Check. -/
import Derived.Test.YtibnikokgbfcdaaDoorC2
import Derived.Test.YtibnikokgbfcdaaDoorDigEq
namespace Go.Proofs.YtibnikokgbfcdaaDoor
open Go Go.RowKit Go.Shelf
attribute [local go_sem] Oper.semAt_some

def lk0 : Lk := ⟨0, 0, [], []⟩
/-- A link at its place. -/
def chkAt (l : List Lk) (j y : Nat) : Prop :=
  (l.getD y lk0).node = (l.getD 0 lk0).node ∧ 0 ≤ (l.getD y lk0).node ∧ (l.getD y lk0).node < 24 ∧ (l.getD y lk0).no = (j : Int) ∧ (l.getD y lk0).data.length ≤ 65536 ∧ (l.getD y lk0).prev = headOf (l.take y)
def chkOk (l : List Lk) : Prop := ∀ k, k < l.length → chkAt l k k
open Classical in
noncomputable def chkOf (l : List Lk) : Int := if 1024 < l.length then 2 else if chkOk l then 0 else 80
/-- What holds between two rounds. -/
def CIn (H : Nat) (l : List Lk) (A : Option Addr) (m c : Nat) (pre : List (Fin m)) (W : World) : Prop :=
  Blk W H 43 #[.slice A m c] ∧ Blk W (H + 1) 25 #[.int .i64 0] ∧ Blk W (H + 2) 3 #[.int .i64 (pre.length : Nat)] ∧ (∀ (j : Nat) (y : Fin m), pre[j]? = some y → chkAt l j y.1) ∧ pre.length ≤ m ∧ H + 4 ≤ W.heap.size
def COut (H : Nat) (l : List Lk) (m : Nat) (pre : List (Fin m)) (W : World) : Prop :=
  Blk W (H + 1) 25 #[.int .i64 80] ∧ ∃ q x, pre = q ++ [x] ∧ ¬ chkAt l q.length x.1
/-- The frame of a round, once its variables are laid. -/
def CAx (H : Nat) (l : List Lk) (V : Nat → Option Addr × Nat) (A : Option Addr) (m c : Nat) (x : Fin m) (a' : Act) (W : World) : Prop :=
  ∃ (gx gh : Nat) (u6 u7 u8 u9 u10 u11 u12 u13 u14 u15 u16 u17 u18 u19 u20 u21 u22 u23 u24 u25 u26 u27 u28 u29 u30 u31 u32 u33 u34 u35 u36 u37 u38 u39 u40 u41 u42 u43 u44 u45 u46 u47 u48 u49 : Value), a' = { tmps := #[.slice A m c, .pointer (some ⟨H, 0, none⟩), .pointer (some ⟨H + 1, 0, none⟩), .pointer (some ⟨H + 1 + 1, 0, none⟩), .pointer (some ⟨gx, 0, none⟩), .pointer (some ⟨gh, 0, none⟩), u6, u7, u8, u9, u10, u11, u12, u13, u14, u15, u16, u17, u18, u19, u20, u21, u22, u23, u24, u25, u26, u27, u28, u29, u30, u31, u32, u33, u34, u35, u36, u37, u38, u39, u40, u41, u42, u43, u44, u45, u46, u47, u48, u49], defers := [] } ∧ H + 4 ≤ gx ∧ H + 4 ≤ gh ∧ Blk W gx 52 ((l.getD x.1 lk0).cells (.slice (V x.1).1 (l.getD x.1 lk0).data.length (V x.1).2)).toArray ∧ Blk W gh 23 (dig (headOf (l.take x.1)))
theorem blk_kept {W W' : World} {g : Nat} {t : TypeId} {cs : Array Value} {row : Option Nat} (h : Blk W g t cs) (hg : W.grownBy W' row) (hr : ∀ r, row = some r → ∃ o : Obj, W.heap[r]? = some o ∧ o.isCells = false) : Blk W' g t cs :=
  Stay.of_kept (base := 0) hg hr g cs t (Nat.zero_le _) h
theorem fold2 (T : Array Value) (p q : Tmp) (a b : Value) : Array.foldl (fun t (x : Tmp × Value) => t.setIfInBounds x.1 x.2) T (#[p, q].zip #[a, b]) = (T.setIfInBounds p a).setIfInBounds q b := by simp
set_option maxRecDepth 100000 in
set_option linter.unusedSimpArgs false in
set_option maxHeartbeats 8000000 in
theorem check_good (A : Option Addr) (l : List Lk) (m c : Nat) (hm : m = l.length) (hm2 : m ≤ 1024) (hc : m ≤ c) (w : World) (hL : Laid w) (hR : LRd w w.heap.size A l) (hdat : ∀ y, y < l.length → (l.getD y lk0).data.length ≤ 4611686018427387903) :
    Calls Tryd.prog 45 #[.slice A m c] w (Ret (.int .i64 (chkOf l)) w) := by
  have hV : ∃ b off V, (0 < m → A = some ⟨b, off, none⟩) ∧ (0 < m → LRv w w.heap.size b off l V) := by
    rcases Nat.eq_zero_or_pos m with h | h
    · exact ⟨0, 0, fun _ => (none, 0), fun h' => by omega, fun h' => by omega⟩
    · obtain ⟨b, off, V, e, hv⟩ := hR.v (by omega)
      exact ⟨b, off, V, fun _ => e, fun _ => hv⟩
  obtain ⟨b, off, V, hA, hRv⟩ := hV
  have HRV := Lib.hid hRv
  have HL := Lib.hid hL
  have HM := Lib.hid hm
  have HA := Lib.hid hA
  clear hRv hL hR hm hA
  refine (callsIn_wide (n := 5)).1 ?_
  refine callsIn_of_wp_marks Tryd.func45 rfl trivial ?_ rfl
  simp only [Tryd.ntmps45, List.size_toArray, List.length_cons, List.length_nil, Nat.reduceAdd, Nat.reduceSub, Array.replicate_succ, Array.replicate_zero, List.push_toArray, List.append_toArray, List.nil_append, List.cons_append]
  refine wpIn_wide.2 ?_
  go_wp2_with fail
  refine (beginnings_any A m c _).mono ?_
  rintro e W0 ⟨rfl, hW0⟩
  have c0 : Blk W0 w.heap.size 43 #[.slice A m c] := by rw [hW0]; exact (((Blk.new w _ _).alloc _).alloc _).alloc _
  have c1 : Blk W0 (w.heap.size + 1) 25 #[.int .i64 0] := by rw [hW0]; exact ((Blk.new' _ _ _ (by simp)).alloc _).alloc _
  have c2 : Blk W0 (w.heap.size + 2) 3 #[.int .i64 0] := by rw [hW0]; exact (Blk.new' _ _ _ (by simp)).alloc _
  have c3 : Blk W0 (w.heap.size + 3) 43 #[.slice A m c] := by rw [hW0]; exact Blk.new' _ _ _ (by simp)
  have hsz : W0.heap.size = w.heap.size + 4 := by rw [hW0]; simp
  have hB0 : Below w.heap.size w W0 := by
    rw [hW0]
    exact ((((Below.refl _ w).alloc (Nat.le_refl _) _).alloc (by simp) _).alloc (by simp; omega) _).alloc (by simp; omega) _
  simp only [World.size_alloc] at ⊢
  obtain ⟨H, hH⟩ : ∃ H, H = w.heap.size := ⟨_, rfl⟩
  clear hW0
  have hHs : H + 4 = W0.heap.size := by omega
  rw [← hH] at c0 c1 c2 c3 hB0 ⊢
  have hL0 := HL.out.below (by rw [← hH]; exact hB0 : Below w.heap.size w W0)
  have hlt0 := HL.out.lt0
  have hlt1 := HL.out.lt1
  have hI0 : CIn H l A m c [] W0 := ⟨c0, c1, c2, (fun j y h => by cases h), Nat.zero_le _, by omega⟩
  have HH := Lib.hid hH
  clear c0 c1 c2 hH
  go_wp2_with fail
  refine (wpIn_wide (n := 5)).1 ?_
  refine wpIn_rangeM rfl (by omega) (gf := 113) (lb := #[.pointer (some ⟨H + 1 + 1 + 1, 0, none⟩)]) rfl trivial (enters_of Tryd.func113 (by kernel_rfl) rfl)
    (begin_stops 4 (H + 3) H b off c A _ l V m HM.out hm2 hc W0 (by omega) hL0 (by omega) (by omega) c3 HA.out (fun h => by rw [HH.out]; exact (HRV.out h).below (by rw [← HH.out]; exact hB0))) (fun _ h => by cases h) (fun h k => Kept.trans h k)
    (fun W ll o o' hl hw1 hw2 hw3 => ⟨belowK_b (w := W0) (by omega) W ll o o' hl hw1 hw2 hw3, fun u hu => (World.putObj_heap_other (by omega)).trans hu⟩) (Below.refl _ _) (fun _ => rfl)
    (fun pre W => CIn H l A m c pre W ∧ Below H w W) (fun cc pre W => (cc = .ret ∧ COut H l m pre W) ∧ Below H w W) ?hI ?hIx (fun _ _ _ _ h _ _ => h) ?hG ⟨hI0, hB0⟩ (CAx H l V A m c) ?hAx ?assign ?body ?done ?stop
  case hI =>
    refine BearsM.of_from (OwnFrom.and (Own.from (fun pre X Y row h hg hr => ?_) _) (ownFrom_below (by omega) (by omega)))
    obtain ⟨i1, i2, i3, i4, i5⟩ := h
    exact ⟨blk_kept i1 hg hr, blk_kept i2 hg hr, blk_kept i3 hg hr, i4, i5.1, Nat.le_trans i5.2 hg.size⟩
  case hIx =>
    intro cc
    refine BearsM.of_from (OwnFrom.and (Own.from (fun pre X Y row h hg hr => ?_) _) (ownFrom_below (by omega) (by omega)))
    exact ⟨h.1, blk_kept h.2.1 hg hr, h.2.2⟩
  case hG =>
    rintro pre W ⟨⟨i1, i2, i3, i4, i5⟩, hB⟩ x hx
    obtain ⟨j, hj⟩ := List.mem_iff_getElem?.1 hx
    obtain ⟨h1, h2, h3, h4, h5, h6⟩ := i4 j x hj
    have := (List.getElem?_eq_some_iff.1 hj).1
    show (l.getD x.1 lk0).fine
    exact ⟨h2, by omega, by omega, by omega, h5⟩
  case hAx =>
    intro x a'
    refine BearsM.of_from (Own.from (fun u X Y row h hg hr => ?_) _)
    obtain ⟨gx, gh, u6, u7, u8, u9, u10, u11, u12, u13, u14, u15, u16, u17, u18, u19, u20, u21, u22, u23, u24, u25, u26, u27, u28, u29, u30, u31, u32, u33, u34, u35, u36, u37, u38, u39, u40, u41, u42, u43, u44, u45, u46, u47, u48, u49, e, g1, g2, b1, b2⟩ := h
    exact ⟨gx, gh, u6, u7, u8, u9, u10, u11, u12, u13, u14, u15, u16, u17, u18, u19, u20, u21, u22, u23, u24, u25, u26, u27, u28, u29, u30, u31, u32, u33, u34, u35, u36, u37, u38, u39, u40, u41, u42, u43, u44, u45, u46, u47, u48, u49, e, g1, g2, blk_kept b1 hg hr, blk_kept b2 hg hr⟩
  case assign =>
    rintro lp pre x W K hIB hK
    have hl := ((HRV.out (by have := x.2; omega)).2 x.1 (by rw [← HM.out]; exact x.2)).1
    have hWs : H + 4 ≤ W.heap.size := hIB.1.2.2.2.2.2
    simp only [begEnc, lkV]
    change (l.getD x.1 lk0).prev.length = 32 at hl
    change Code.wpIn _ _ _ _ _ { tmps := Array.foldl _ _ (#[11, 12].zip #[Value.agg ((l.getD x.1 lk0).cells (.slice (V x.1).1 (l.getD x.1 lk0).data.length (V x.1).2)).toArray, Value.agg (dig (headOf (l.take x.1)))]), defers := _ } W
    obtain ⟨lx, hlx⟩ : ∃ lx, lx = l.getD x.1 lk0 := ⟨_, rfl⟩
    obtain ⟨⟨D, dc⟩, hde⟩ : ∃ p, p = V x.1 := ⟨_, rfl⟩
    rw [← hlx, ← hde]
    rw [← hlx] at hl
    have HLX := Lib.hid hlx
    have HDE := Lib.hid hde
    clear hlx hde
    simp only [fold2, List.setIfInBounds_toArray, List.set_cons_zero, List.set_cons_succ]
    iterate 2 (first | go_values | gi_guarded | gi_step | gi_upon)
    refine wpIn_region_list_of (L := [_, _]) (by kernel_rfl) ?_ ?_
    · intro ho
      obtain ⟨_, _, h⟩ := ho
      exact h
    go_wp2_with (refine store_link rfl _ _ rfl (Blk.new' W 52 _ rfl) lx D lx.data.length dc hl rfl rfl rfl ?_; intro W2 hX hO2 hz2; have hB2 : Below W.heap.size W W2 := ((Below.refl _ W).alloc (Nat.le_refl _) _).trans (hO2.toBelow (by simp) (Nat.le_refl _)); clear hz2)
    iterate 1 (first | go_values | gi_guarded | gi_step | gi_upon)
    refine wpListIn_of ?_ _ ?_ _ _ ?_
    · intro ho
      obtain ⟨_, _, h⟩ := ho
      exact h
    · intro o ho cc e
      simp only [List.mem_cons, List.mem_nil_iff, or_false] at ho
      rcases ho with rfl | rfl <;> cases e
    go_wp2_with (refine store_dig rfl _ _ rfl (Blk.new' W2 23 _ rfl) (headOf (l.take x.1)) (headOf_length _) rfl rfl rfl ?_; intro W3 hY hO3 hz3; have hB3 : Below W2.heap.size W2 W3 := ((Below.refl _ W2).alloc (Nat.le_refl _) _).trans (hO3.toBelow (by simp) (Nat.le_refl _)))
    obtain ⟨⟨i1, i2, i3, i4, i5⟩, hBI⟩ := hIB
    have hBW : Below W.heap.size W W3 := hB2.trans (hB3.mono hB2.size)
    refine hK _ _ ((KeepsOthers.of_below hBW).from _) (Kept.of_below hBW (by have := hBI.size; omega)) ⟨⟨i1.below hBW i1.lt, i2.below hBW i2.lt, i3.below hBW i3.lt, i4, i5.1, Nat.le_trans i5.2 hBW.size⟩, hBI.trans (hBW.mono (by have := hBI.size; omega))⟩ ⟨W.heap.size, W2.heap.size, _, _, _, _, _, _, _, _, _, _, _, _, _, _, _, _, _, _, _, _, _, _, _, _, _, _, _, _, _, _, _, _, _, _, _, _, _, _, _, _, _, _, _, _, rfl, hWs, Nat.le_trans hWs hB2.size, ?_, hY⟩
    rw [← HLX.out, ← HDE.out]
    exact hX.below hB3 hX.lt
  case body =>
    rintro lp pre x a' W ⟨⟨i1, i2, i3, i4, i5, i6⟩, hB⟩ ⟨gx, gh, u6, u7, u8, u9, u10, u11, u12, u13, u14, u15, u16, u17, u18, u19, u20, u21, u22, u23, u24, u25, u26, u27, u28, u29, u30, u31, u32, u33, u34, u35, u36, u37, u38, u39, u40, u41, u42, u43, u44, u45, u46, u47, u48, u49, rfl, g1, g2, bX, bH⟩ hlen
    gi_wp2_with fail
    have hx0 : 0 < m := by have := x.2; omega
    obtain rfl : A = some ⟨b, off, none⟩ := HA.out hx0
    obtain ⟨hpv0, -, -, -, -⟩ := (HRV.out hx0).2 x.1 (by rw [← HM.out]; exact x.2)
    obtain ⟨-, r0, -, -, -⟩ := (HRV.out hx0).2 0 (by rw [← HM.out]; exact hx0)
    have hbw := (HRV.out hx0).1
    have hc0 : W.cell? ⟨b, off, none⟩ = some (.int .i64 (l.getD 0 lk0).node) := by
      have h := r0 0 _ rfl
      rw [Nat.zero_mul] at h
      exact (hB.cell (p := ⟨b, off, none⟩) (by show b < H; rw [HH.out]; exact hbw)).trans h
    have HCH := Lib.hid (Iff.rfl : chkAt l pre.length x.1 ↔ chkAt l pre.length x.1)
    unfold chkAt at HCH
    change (l.getD x.1 lk0).prev.length = 32 at hpv0
    obtain ⟨n0, hn0⟩ : ∃ n0, n0 = (l.getD 0 lk0).node := ⟨_, rfl⟩
    obtain ⟨lx, hlx⟩ : ∃ lx, lx = l.getD x.1 lk0 := ⟨_, rfl⟩
    rw [← hn0] at hc0
    rw [← hlx] at bX hpv0
    have hchk : chkAt l pre.length x.1 ↔ (lx.node = n0 ∧ 0 ≤ lx.node ∧ lx.node < 24 ∧ lx.no = (pre.length : Nat) ∧ lx.data.length ≤ 65536 ∧ lx.prev = headOf (l.take x.1)) := by
      rw [hn0, hlx]
      exact Iff.rfl
    have hdl3 := hdat x.1 (by rw [← HM.out]; exact x.2)
    rw [← hlx] at hdl3
    clear hlx hn0 r0 hbw HCH
    obtain ⟨nd, no, pv, dat⟩ := lx
    simp only at hchk hpv0 hdl3
    have hpv : pv.length = 32 := hpv0
    obtain ⟨HD, hhd⟩ : ∃ HD, HD = headOf (l.take x.1) := ⟨_, rfl⟩
    have hHD : HD.length = 32 := by rw [hhd]; exact headOf_length _
    rw [← hhd] at hchk bH
    obtain ⟨⟨D, dc⟩, hde⟩ : ∃ p, p = V x.1 := ⟨_, rfl⟩
    rw [← hde] at bX
    obtain ⟨dl, hdl⟩ : ∃ dl, dl = dat.length := ⟨_, rfl⟩
    obtain ⟨PL, hPL⟩ : ∃ PL, PL = pre.length := ⟨_, rfl⟩
    have k0 : W.cell? ⟨gx, 0, none⟩ = some (.int .i64 nd) := bX.cell 0
    have k1 : W.cell? ⟨gx, 1, none⟩ = some (.int .i64 no) := bX.cell 1
    have k34 : W.cell? ⟨gx, 34, none⟩ = some (.slice D dl dc) := by
      rw [bX.cell 34, List.getElem?_toArray, hdl]
      exact Lk.at_data ⟨nd, no, pv, dat⟩ _ hpv
    have rgP : W.rangeAt gx 2 (dig pv).toList := fun j v hv => by
      have hj : j < 32 := by have := (List.getElem?_eq_some_iff.1 hv).1; simpa [dig_size, hpv] using this
      rw [bX.cell, List.getElem?_toArray, Lk.at_prev ⟨nd, no, pv, dat⟩ _ hpv j hj]
      simpa using hv
    have rgH : W.rangeAt gh 0 (dig HD).toList := fun j v hv => by
      rw [Nat.zero_add, bH.cell]
      simpa using hv
    rw [← hdl, ← hPL] at hchk
    rw [← hPL] at i3
    have e1 : W.cell? ⟨H, 0, none⟩ = some (.slice (some ⟨b, off, none⟩) m c) := i1.cell 0
    have e3 : W.cell? ⟨H + 1 + 1, 0, none⟩ = some (.int .i64 (PL : Nat)) := i3.cell 0
    have heqv : ∀ W : World, (Op.equalIn 10000 23 (.agg (dig pv)) (.agg (dig HD))).run Tryd.prog W = .ok (decide (pv = HD)) W := fun W => run_equal_dig pv HD hpv hHD 9998 W
    have HCHK := Lib.hid hchk
    have HPL := Lib.hid hPL
    have hdl2 : dl ≤ 4611686018427387903 := by rw [hdl]; exact hdl3
    have HEQ := Lib.hid heqv
    have hplm : PL ≤ 1024 := by rw [hPL]; omega
    clear hchk hhd hde hdl hPL hpv0 heqv
    by_cases t1 : nd = n0
    rotate_left
    · have hb1 : (nd != n0) = true := bne_iff_ne.2 t1
      have hno : ¬ chkAt l PL x.1 := fun h => t1 (HCHK.out.1 h).1
      refine wpIn_region_quiet (by kernel_rfl) (by kernel_rfl) (by kernel_rfl) ?_ ?_
      · intro ho
        obtain ⟨_, _, h⟩ := ho
        exact h
      repeat (first | go_big_quiet_step (fail) | (go_big_quiet_want; refine quiet_load_dig _ rfl gx 2 rfl pv hpv (fun w hw => by obtain ⟨q, rfl⟩ := hw; exact rgP) ?_; simp only [Act.put, List.setIfInBounds_toArray, List.set_cons_zero, List.set_cons_succ]; go_big_quiet_on) | (go_big_quiet_want; refine quiet_load_dig _ rfl gh 0 rfl HD hHD (fun w hw => by obtain ⟨q, rfl⟩ := hw; exact rgH) ?_; simp only [Act.put, List.setIfInBounds_toArray, List.set_cons_zero, List.set_cons_succ]; go_big_quiet_on))
      refine wpQuiet_nil ?_
      rintro w' ⟨q, rfl⟩
      have hkd : KeepsOthers W (W.drewN q) := ⟨Nat.le_refl _, fun _ _ h _ => h⟩
      have hBd := below_drewN hB q
      have J2 : Blk (W.drewN q) (H + 1) 25 #[.int .i64 0] := i2
      clear i1 i2 i3 rgP rgH k0 k1 k34 hc0 e1 e3 bX bH i6 hB
      generalize W.drewN q = Wd at J2 hkd hBd ⊢
      have c2q : Wd.cell? ⟨H + 1, 0, none⟩ = some (.int .i64 0) := J2.cell 0
      have f2q : Wd.frozen? ⟨H + 1, 0, none⟩ = false := J2.frozen 0
      gi_wp2_with fail
      exact ⟨(hkd.trans (KeepsOthers.setCell _ _ _)).from _, ⟨rfl, J2.set 0 (.int .i64 80), pre, x, rfl, by rw [← HPL.out]; exact hno⟩, hBd.setCell (p := ⟨H + 1, 0, none⟩) (Nat.le_succ _) _⟩
    subst t1
    by_cases t2 : nd < 0
    · have hno : ¬ chkAt l PL x.1 := fun h => by have := (HCHK.out.1 h).2.1; omega
      refine wpIn_region_quiet (by kernel_rfl) (by kernel_rfl) (by kernel_rfl) ?_ ?_
      · intro ho
        obtain ⟨_, _, h⟩ := ho
        exact h
      repeat (first | go_big_quiet_step (fail) | (go_big_quiet_want; refine quiet_load_dig _ rfl gx 2 rfl pv hpv (fun w hw => by obtain ⟨q, rfl⟩ := hw; exact rgP) ?_; simp only [Act.put, List.setIfInBounds_toArray, List.set_cons_zero, List.set_cons_succ]; go_big_quiet_on) | (go_big_quiet_want; refine quiet_load_dig _ rfl gh 0 rfl HD hHD (fun w hw => by obtain ⟨q, rfl⟩ := hw; exact rgH) ?_; simp only [Act.put, List.setIfInBounds_toArray, List.set_cons_zero, List.set_cons_succ]; go_big_quiet_on))
      refine wpQuiet_nil ?_
      rintro w' ⟨q, rfl⟩
      have hkd : KeepsOthers W (W.drewN q) := ⟨Nat.le_refl _, fun _ _ h _ => h⟩
      have hBd := below_drewN hB q
      have J2 : Blk (W.drewN q) (H + 1) 25 #[.int .i64 0] := i2
      clear i1 i2 i3 rgP rgH k0 k1 k34 hc0 e1 e3 bX bH i6 hB
      generalize W.drewN q = Wd at J2 hkd hBd ⊢
      have c2q : Wd.cell? ⟨H + 1, 0, none⟩ = some (.int .i64 0) := J2.cell 0
      have f2q : Wd.frozen? ⟨H + 1, 0, none⟩ = false := J2.frozen 0
      gi_wp2_with fail
      exact ⟨(hkd.trans (KeepsOthers.setCell _ _ _)).from _, ⟨rfl, J2.set 0 (.int .i64 80), pre, x, rfl, by rw [← HPL.out]; exact hno⟩, hBd.setCell (p := ⟨H + 1, 0, none⟩) (Nat.le_succ _) _⟩
    have t2' : decide (nd < 0) = false := decide_eq_false t2
    by_cases t3 : 24 ≤ nd
    · have hno : ¬ chkAt l PL x.1 := fun h => by have := (HCHK.out.1 h).2.2.1; omega
      refine wpIn_region_quiet (by kernel_rfl) (by kernel_rfl) (by kernel_rfl) ?_ ?_
      · intro ho
        obtain ⟨_, _, h⟩ := ho
        exact h
      repeat (first | go_big_quiet_step (fail) | (go_big_quiet_want; refine quiet_load_dig _ rfl gx 2 rfl pv hpv (fun w hw => by obtain ⟨q, rfl⟩ := hw; exact rgP) ?_; simp only [Act.put, List.setIfInBounds_toArray, List.set_cons_zero, List.set_cons_succ]; go_big_quiet_on) | (go_big_quiet_want; refine quiet_load_dig _ rfl gh 0 rfl HD hHD (fun w hw => by obtain ⟨q, rfl⟩ := hw; exact rgH) ?_; simp only [Act.put, List.setIfInBounds_toArray, List.set_cons_zero, List.set_cons_succ]; go_big_quiet_on))
      refine wpQuiet_nil ?_
      rintro w' ⟨q, rfl⟩
      have hkd : KeepsOthers W (W.drewN q) := ⟨Nat.le_refl _, fun _ _ h _ => h⟩
      have hBd := below_drewN hB q
      have J2 : Blk (W.drewN q) (H + 1) 25 #[.int .i64 0] := i2
      clear i1 i2 i3 rgP rgH k0 k1 k34 hc0 e1 e3 bX bH i6 hB
      generalize W.drewN q = Wd at J2 hkd hBd ⊢
      have c2q : Wd.cell? ⟨H + 1, 0, none⟩ = some (.int .i64 0) := J2.cell 0
      have f2q : Wd.frozen? ⟨H + 1, 0, none⟩ = false := J2.frozen 0
      gi_wp2_with fail
      exact ⟨(hkd.trans (KeepsOthers.setCell _ _ _)).from _, ⟨rfl, J2.set 0 (.int .i64 80), pre, x, rfl, by rw [← HPL.out]; exact hno⟩, hBd.setCell (p := ⟨H + 1, 0, none⟩) (Nat.le_succ _) _⟩
    have t3' : decide (24 ≤ nd) = false := decide_eq_false t3
    by_cases t4 : no = (PL : Int)
    rotate_left
    · have hb4 : (no != (PL : Int)) = true := bne_iff_ne.2 t4
      have hno : ¬ chkAt l PL x.1 := fun h => t4 (HCHK.out.1 h).2.2.2.1
      refine wpIn_region_quiet (by kernel_rfl) (by kernel_rfl) (by kernel_rfl) ?_ ?_
      · intro ho
        obtain ⟨_, _, h⟩ := ho
        exact h
      repeat (first | go_big_quiet_step (fail) | (go_big_quiet_want; refine quiet_load_dig _ rfl gx 2 rfl pv hpv (fun w hw => by obtain ⟨q, rfl⟩ := hw; exact rgP) ?_; simp only [Act.put, List.setIfInBounds_toArray, List.set_cons_zero, List.set_cons_succ]; go_big_quiet_on) | (go_big_quiet_want; refine quiet_load_dig _ rfl gh 0 rfl HD hHD (fun w hw => by obtain ⟨q, rfl⟩ := hw; exact rgH) ?_; simp only [Act.put, List.setIfInBounds_toArray, List.set_cons_zero, List.set_cons_succ]; go_big_quiet_on))
      refine wpQuiet_nil ?_
      rintro w' ⟨q, rfl⟩
      have hkd : KeepsOthers W (W.drewN q) := ⟨Nat.le_refl _, fun _ _ h _ => h⟩
      have hBd := below_drewN hB q
      have J2 : Blk (W.drewN q) (H + 1) 25 #[.int .i64 0] := i2
      clear i1 i2 i3 rgP rgH k0 k1 k34 hc0 e1 e3 bX bH i6 hB
      generalize W.drewN q = Wd at J2 hkd hBd ⊢
      have c2q : Wd.cell? ⟨H + 1, 0, none⟩ = some (.int .i64 0) := J2.cell 0
      have f2q : Wd.frozen? ⟨H + 1, 0, none⟩ = false := J2.frozen 0
      gi_wp2_with fail
      exact ⟨(hkd.trans (KeepsOthers.setCell _ _ _)).from _, ⟨rfl, J2.set 0 (.int .i64 80), pre, x, rfl, by rw [← HPL.out]; exact hno⟩, hBd.setCell (p := ⟨H + 1, 0, none⟩) (Nat.le_succ _) _⟩
    subst t4
    by_cases t5 : 65536 < dl
    · have t5i : (65536 : Int) < (dl : Int) := by omega
      have hno : ¬ chkAt l PL x.1 := fun h => by have := (HCHK.out.1 h).2.2.2.2.1; omega
      refine wpIn_region_quiet (by kernel_rfl) (by kernel_rfl) (by kernel_rfl) ?_ ?_
      · intro ho
        obtain ⟨_, _, h⟩ := ho
        exact h
      repeat (first | go_big_quiet_step (fail) | (go_big_quiet_want; refine quiet_load_dig _ rfl gx 2 rfl pv hpv (fun w hw => by obtain ⟨q, rfl⟩ := hw; exact rgP) ?_; simp only [Act.put, List.setIfInBounds_toArray, List.set_cons_zero, List.set_cons_succ]; go_big_quiet_on) | (go_big_quiet_want; refine quiet_load_dig _ rfl gh 0 rfl HD hHD (fun w hw => by obtain ⟨q, rfl⟩ := hw; exact rgH) ?_; simp only [Act.put, List.setIfInBounds_toArray, List.set_cons_zero, List.set_cons_succ]; go_big_quiet_on))
      refine wpQuiet_nil ?_
      rintro w' ⟨q, rfl⟩
      have hkd : KeepsOthers W (W.drewN q) := ⟨Nat.le_refl _, fun _ _ h _ => h⟩
      have hBd := below_drewN hB q
      have J2 : Blk (W.drewN q) (H + 1) 25 #[.int .i64 0] := i2
      clear i1 i2 i3 rgP rgH k0 k1 k34 hc0 e1 e3 bX bH i6 hB
      generalize W.drewN q = Wd at J2 hkd hBd ⊢
      have c2q : Wd.cell? ⟨H + 1, 0, none⟩ = some (.int .i64 0) := J2.cell 0
      have f2q : Wd.frozen? ⟨H + 1, 0, none⟩ = false := J2.frozen 0
      gi_wp2_with fail
      exact ⟨(hkd.trans (KeepsOthers.setCell _ _ _)).from _, ⟨rfl, J2.set 0 (.int .i64 80), pre, x, rfl, by rw [← HPL.out]; exact hno⟩, hBd.setCell (p := ⟨H + 1, 0, none⟩) (Nat.le_succ _) _⟩
    have t5' : decide ((65536 : Int) < (dl : Int)) = false := decide_eq_false (by omega)
    by_cases t6 : pv = HD
    rotate_left
    · have hno : ¬ chkAt l PL x.1 := fun h => t6 (HCHK.out.1 h).2.2.2.2.2
      have heq : ∀ W : World, (Op.equalIn 10000 23 (.agg (dig pv)) (.agg (dig HD))).run Tryd.prog W = .ok false W := fun W => by rw [HEQ.out W, decide_eq_false t6]
      refine wpIn_region_quiet (by kernel_rfl) (by kernel_rfl) (by kernel_rfl) ?_ ?_
      · intro ho
        obtain ⟨_, _, h⟩ := ho
        exact h
      repeat (first | go_big_quiet_step (fail) | (go_big_quiet_want; refine quiet_load_dig _ rfl gx 2 rfl pv hpv (fun w hw => by obtain ⟨q, rfl⟩ := hw; exact rgP) ?_; simp only [Act.put, List.setIfInBounds_toArray, List.set_cons_zero, List.set_cons_succ]; go_big_quiet_on) | (go_big_quiet_want; refine quiet_load_dig _ rfl gh 0 rfl HD hHD (fun w hw => by obtain ⟨q, rfl⟩ := hw; exact rgH) ?_; simp only [Act.put, List.setIfInBounds_toArray, List.set_cons_zero, List.set_cons_succ]; go_big_quiet_on))
      refine wpQuiet_nil ?_
      rintro w' ⟨q, rfl⟩
      have hkd : KeepsOthers W (W.drewN q) := ⟨Nat.le_refl _, fun _ _ h _ => h⟩
      have hBd := below_drewN hB q
      have J2 : Blk (W.drewN q) (H + 1) 25 #[.int .i64 0] := i2
      clear i1 i2 i3 rgP rgH k0 k1 k34 hc0 e1 e3 bX bH i6 hB
      generalize W.drewN q = Wd at J2 hkd hBd ⊢
      have c2q : Wd.cell? ⟨H + 1, 0, none⟩ = some (.int .i64 0) := J2.cell 0
      have f2q : Wd.frozen? ⟨H + 1, 0, none⟩ = false := J2.frozen 0
      gi_wp2_with fail
      exact ⟨(hkd.trans (KeepsOthers.setCell _ _ _)).from _, ⟨rfl, J2.set 0 (.int .i64 80), pre, x, rfl, by rw [← HPL.out]; exact hno⟩, hBd.setCell (p := ⟨H + 1, 0, none⟩) (Nat.le_succ _) _⟩
    have heq : ∀ W : World, (Op.equalIn 10000 23 (.agg (dig pv)) (.agg (dig HD))).run Tryd.prog W = .ok true W := fun W => by rw [HEQ.out W, decide_eq_true t6]
    have HPV := Lib.hid t6
    clear t6
    refine wpIn_region_quiet (by kernel_rfl) (by kernel_rfl) (by kernel_rfl) ?_ ?_
    · intro ho
      obtain ⟨_, _, h⟩ := ho
      exact h
    repeat (first | go_big_quiet_step (fail) | (go_big_quiet_want; refine quiet_load_dig _ rfl gx 2 rfl pv hpv (fun w hw => by obtain ⟨q, rfl⟩ := hw; exact rgP) ?_; simp only [Act.put, List.setIfInBounds_toArray, List.set_cons_zero, List.set_cons_succ]; go_big_quiet_on) | (go_big_quiet_want; refine quiet_load_dig _ rfl gh 0 rfl HD hHD (fun w hw => by obtain ⟨q, rfl⟩ := hw; exact rgH) ?_; simp only [Act.put, List.setIfInBounds_toArray, List.set_cons_zero, List.set_cons_succ]; go_big_quiet_on))
    refine wpQuiet_nil ?_
    rintro w' ⟨q, rfl⟩
    have hkd : KeepsOthers W (W.drewN q) := ⟨Nat.le_refl _, fun _ _ h _ => h⟩
    have hBd := below_drewN hB q
    have J3 : Blk (W.drewN q) (H + 2) 3 #[.int .i64 (PL : Nat)] := i3
    have J1 : Blk (W.drewN q) H 43 #[.slice (some ⟨b, off, none⟩) m c] := i1
    have J2 : Blk (W.drewN q) (H + 1) 25 #[.int .i64 0] := i2
    have hsd : H + 4 ≤ (W.drewN q).heap.size := i6
    have hkp : Kept H (H + 3) W (W.drewN q) := ⟨below_drewN (Below.refl _ _) q, fun _ h => h⟩
    clear i1 i2 i3 rgP rgH k0 k1 k34 hc0 e1 e3 heq bX bH i6 hB
    generalize W.drewN q = Wd at J1 J2 J3 hkd hBd hsd hkp ⊢
    have c3q : Wd.cell? ⟨H + 1 + 1, 0, none⟩ = some (.int .i64 (PL : Nat)) := J3.cell 0
    have f3q : Wd.frozen? ⟨H + 1 + 1, 0, none⟩ = false := J3.frozen 0
    gi_wp2_with fail
    refine ⟨(hkd.trans (KeepsOthers.setCell _ _ _)).from _, hkp.trans ⟨(Below.refl _ _).setCell (p := ⟨H + 1 + 1, 0, none⟩) (by show H ≤ H + 1 + 1; omega) _, fun o ho => (heap_setCell_other _ _ _ _ (by show H + 3 ≠ H + 1 + 1; omega)).trans ho⟩, ⟨J1.far (p := ⟨H + 1 + 1, 0, none⟩) (by show H ≠ H + 1 + 1; omega) _, J2.far (p := ⟨H + 1 + 1, 0, none⟩) (by show H + 1 ≠ H + 1 + 1; omega) _, ?_, ?_, ?_, ?_⟩, hBd.setCell (p := ⟨H + 1 + 1, 0, none⟩) (by show H ≤ H + 1 + 1; omega) _⟩
    · have h9 := J3.set 0 (.int .i64 ((PL : Int) + 1))
      rw [List.length_append, ← HPL.out]
      exact h9
    · intro j y hy
      rcases Nat.lt_or_ge j pre.length with h | h
      · rw [List.getElem?_append_left h] at hy
        exact i4 j y hy
      · have hj := (List.getElem?_eq_some_iff.1 hy).1
        rw [List.length_append, List.length_singleton] at hj
        obtain rfl : j = pre.length := by omega
        rw [List.getElem?_append_right (Nat.le_refl _), Nat.sub_self] at hy
        obtain rfl := Option.some.inj hy
        rw [← HPL.out]
        refine HCHK.out.2 ⟨?_, by omega, by omega, ?_, by omega, HPV.out⟩ <;> trivial
    · rw [List.length_append, List.length_singleton]; omega
    · simpa [World.setCell] using hsd
  case done =>
    rintro D xs W hD rfl ⟨⟨i1, i2, i3, i4, i5, i6⟩, hB⟩ - hK
    have c2q : W.cell? ⟨H + 1, 0, none⟩ = some (.int .i64 0) := i2.cell 0
    have f2q : W.frozen? ⟨H + 1, 0, none⟩ = false := i2.frozen 0
    have hok : chkOf l = 0 := by
      rw [chkOf, if_neg (by rw [← HM.out]; omega), if_pos]
      intro k hk
      exact i4 k ⟨k, by rw [HM.out]; exact hk⟩ (by rw [List.getElem?_eq_getElem (by simpa [HM.out] using hk)]; simp)
    have HOK := Lib.hid hok
    clear hok i1 i3 i4 i5 c3
    go_wp2
    have hK' := (KeepsOthers.setCell W ⟨H + 1, 0, none⟩ (.int .i64 0)).same D _ hK rfl
    refine ⟨by simp, .inl ⟨_, _, rfl, run_takeDeferred hK', ?_⟩⟩
    have hc5 := cell_kept ((i2.set 0 (.int .i64 0)).cell 0) (grownBy_putObj' _ D (.deferred none)) (fun r e => by cases e; exact ⟨_, hK', rfl⟩)
    have hc6 : ((W.setCell ⟨H + 1, 0, none⟩ (.int .i64 0)).putObj D (.deferred none)).cell? ⟨H + 1, 0, none⟩ = some (.int .i64 0) := hc5
    refine ⟨.int .i64 0, ?_, by rw [HOK.out], ?_⟩
    · simp [results, Tryd.f45, go_sem, hc6]
    · rw [← HH.out]
      exact (hB.setCell (p := ⟨H + 1, 0, none⟩) (Nat.le_succ _) _).trans (belowK_b (w := W0) (by omega) _ D _ _ hD hK' rfl rfl)
  case stop =>
    rintro D cc pre W hD hpre ⟨⟨rfl, j2, q, x, rfl, hno⟩, hB⟩ hK
    have hbad : chkOf l = 80 := by
      rw [chkOf, if_neg (by rw [← HM.out]; omega), if_neg]
      intro h
      obtain ⟨r, hr⟩ := hpre
      have hx : (List.finRange m)[q.length]? = some x := by rw [← hr, List.append_assoc, List.getElem?_append_right (Nat.le_refl _), Nat.sub_self]; rfl
      have hq := (List.getElem?_eq_some_iff.1 hx).1
      have hxv : x.1 = q.length := by
        rw [List.getElem?_eq_getElem hq] at hx
        have := Option.some.inj hx
        rw [← this]
        simp
      rw [hxv] at hno
      exact hno (h _ (by rw [← HM.out]; simpa using hq))
    have HOK := Lib.hid hbad
    clear hbad
    gi_wp2
    refine ⟨by simp, .inl ⟨_, _, rfl, run_takeDeferred hK, ?_⟩⟩
    have hc5 := cell_kept (j2.cell 0) (grownBy_putObj' _ D (.deferred none)) (fun r e => by cases e; exact ⟨_, hK, rfl⟩)
    have hc6 : (W.putObj D (.deferred none)).cell? ⟨H + 1, 0, none⟩ = some (.int .i64 80) := hc5
    refine ⟨.int .i64 80, ?_, by rw [HOK.out], ?_⟩
    · simp [results, Tryd.f45, go_sem, hc6]
    · rw [← HH.out]
      exact hB.trans (belowK_b (w := W0) (by omega) _ D _ _ hD hK rfl rfl)
set_option maxRecDepth 100000 in
set_option maxHeartbeats 1000000 in
theorem check_limit (A : Option Addr) (m c : Nat) (hm : 1024 < m) (hm2 : m ≤ 9223372036854775807) (w : World) : Calls Tryd.prog 45 #[.slice A m c] w (Ret (.int .i64 2) w) := by
  go_enter Tryd.func45, Tryd.ntmps45
  go_wp2
  refine bodyPost_ret (v := .int .i64 2) ?_ rfl ⟨rfl, ((Below.refl _ w).alloc (Nat.le_refl _) _).alloc (by simp) _⟩
  simp [results, Tryd.f45, go_sem]
theorem check_any (A : Option Addr) (l : List Lk) (m c : Nat) (hm : m = l.length) (hm2 : m ≤ 9223372036854775807) (hc : m ≤ c) (w : World) (hL : Laid w) (hR : LRd w w.heap.size A l) (hdat : ∀ y, y < l.length → (l.getD y lk0).data.length ≤ 4611686018427387903) :
    Calls Tryd.prog 45 #[.slice A m c] w (Ret (.int .i64 (chkOf l)) w) := by
  by_cases h : 1024 < m
  · rw [chkOf, if_pos (by omega)]
    exact check_limit A m c h hm2 w
  · exact check_good A l m c hm (by omega) hc w hL hR hdat
end Go.Proofs.YtibnikokgbfcdaaDoor

/- Several texts in one: N7, N8, N9, N11, N12. -/
import Derived.Test.YtkkcbkfpaoldmaaGreatDoorN5
import Derived.Test.YtkkcbkfpaoldmaaGreatDoorM08
/- Walk: nat.compare. -/
namespace Go.Proofs.YtkkcbkfpaoldmaaGreatDoor
open Go Go.RowKit Go.Shelf
attribute [local go_sem] Oper.semAt_some

theorem blk_kept {W W' : World} {g : Nat} {t : TypeId} {cs : Array Value} {row : Option Nat} (h : Blk W g t cs) (hg : W.grownBy W' row) (hr : ∀ r, row = some r → ∃ o : Obj, W.heap[r]? = some o ∧ o.isCells = false) : Blk W' g t cs :=
  (hg.block g h.lt (fun e => by
    obtain ⟨o, ho, hc⟩ := hr g e.symm
    rw [h] at ho
    cases ho
    simp [Obj.isCells] at hc)).trans h
theorem Blk.new' (w : World) {g : Nat} (t : TypeId) (cs : Array Value) (h : g = w.heap.size) : Blk (w.alloc (.cells cs t)) g t cs := by subst h; exact Blk.new w t cs
theorem fold2 (T : Array Value) (p q : Tmp) (a b : Value) : Array.foldl (fun t (x : Tmp × Value) => t.setIfInBounds x.1 x.2) T (#[p, q].zip #[a, b]) = (T.setIfInBounds p a).setIfInBounds q b := by simp
/-- The sign of a difference. -/
def sgn (x : Int) : Int := if x < 0 then -1 else if 0 < x then 1 else 0
/-- What holds between two rounds. -/
def PIn (H : Nat) (B : Option Addr) (n cb : Nat) (a b : List Int) (w : World) (pre : List (Fin n)) (W : World) : Prop :=
  (Blk W H 131 #[.slice B n cb] ∧ Blk W (H + 1) 3 #[.int .i64 0] ∧ (∀ y ∈ pre, dg a (n - 1 - y.1) = dg b (n - 1 - y.1)) ∧ H + 3 ≤ W.heap.size) ∧ Below H w W
def POut (H n : Nat) (a b : List Int) (w : World) (cc : Code) (pre : List (Fin n)) (W : World) : Prop :=
  (cc = .ret ∧ ∃ q x v, pre = q ++ [x] ∧ (∀ y ∈ q, dg a (n - 1 - y.1) = dg b (n - 1 - y.1)) ∧ ((dg a (n - 1 - x.1) < dg b (n - 1 - x.1) ∧ v = -1) ∨ (dg b (n - 1 - x.1) < dg a (n - 1 - x.1) ∧ v = 1)) ∧ Blk W (H + 1) 3 #[.int .i64 v]) ∧ Below H w W
/-- The frame of a round, once its variables are laid. -/
def PAx (H : Nat) (A B : Option Addr) (n ca cb : Nat) (a : List Int) (x : Fin n) (a' : Act) (_ : World) : Prop :=
  ∃ (s : Nat) (d : Int) (u2 u7 u8 u9 u10 u11 u12 u13 u14 u15 u16 u17 u18 u19 u20 u21 u22 u23 u24 u25 u26 u27 u28 u29 u30 u31 u32 u33 u34 u35 u36 u37 u38 : Value), s = n - 1 - x.1 ∧ d = dg a s ∧ a' = { tmps := #[.slice A n ca, .slice B n cb, u2, .pointer (some ⟨H, 0, none⟩), .pointer (some ⟨H + 1, 0, none⟩), .int .i64 (s : Int), .int .i64 d, u7, u8, u9, u10, u11, u12, u13, u14, u15, u16, u17, u18, u19, u20, u21, u22, u23, u24, u25, u26, u27, u28, u29, u30, u31, u32, u33, u34, u35, u36, u37, u38], defers := [] }
set_option maxRecDepth 100000 in
set_option linter.unusedSimpArgs false in
set_option linter.unusedVariables false in
set_option maxHeartbeats 8000000 in
theorem compare_same (A B : Option Addr) (a b : List Int) (n ca cb : Nat) (hna : n = a.length) (hnb : n = b.length) (hn : n ≤ 1000000) (hda : DigL a) (hdb : DigL b) (w : World) (hA : MRd w w.heap.size A a) (hB : MRd w w.heap.size B b) :
    Calls Tryz.prog 81 #[.slice A n ca, .slice B n cb] w (Ret (.int .i64 (sgn (valL a - valL b))) w) := by
  have HA := Lib.hid hA
  have HB := Lib.hid hB
  have HNA := Lib.hid hna
  have HNB := Lib.hid hnb
  have HDA := Lib.hid hda
  have HDB := Lib.hid hdb
  clear hA hB hna hnb hda hdb
  refine (callsIn_wide (n := 5)).1 ?_
  refine callsIn_of_wp_marks Tryz.func81 rfl trivial ?_ rfl
  simp only [Tryz.ntmps81, List.size_toArray, List.length_cons, List.length_nil, Nat.reduceAdd, Nat.reduceSub, Array.replicate_succ, Array.replicate_zero, List.push_toArray, List.append_toArray, List.nil_append, List.cons_append]
  refine wpIn_wide.2 ?_
  go_wp2_with fail
  refine (ndown_any A n ca _).mono ?_
  rintro e W0 ⟨rfl, hW0⟩
  have c0 : Blk W0 w.heap.size 131 #[.slice B n cb] := by rw [hW0]; exact ((Blk.new w _ _).alloc _).alloc _
  have c1 : Blk W0 (w.heap.size + 1) 3 #[.int .i64 0] := by rw [hW0]; exact (Blk.new' _ _ _ (by simp)).alloc _
  have c2 : Blk W0 (w.heap.size + 2) 131 #[.slice A n ca] := by rw [hW0]; exact Blk.new' _ _ _ (by simp)
  have hsz : W0.heap.size = w.heap.size + 3 := by rw [hW0]; simp
  have hB0 : Below w.heap.size w W0 := by
    rw [hW0]
    exact (((Below.refl _ w).alloc (Nat.le_refl _) _).alloc (by simp) _).alloc (by simp; omega) _
  simp only [World.size_alloc] at ⊢
  obtain ⟨H, hH⟩ : ∃ H, H = w.heap.size := ⟨_, rfl⟩
  clear hW0
  rw [← hH] at c0 c1 c2 hB0 hsz ⊢
  have hRA : Rd W0 H A n (fun i => .int .i64 (dg a i)) := by
    have h := HA.out.below (by rw [← hH]; exact hB0)
    rw [← hH] at h
    rw [HNA.out]
    exact h
  have HH := Lib.hid hH
  have hH1 : H ≤ w.heap.size := by omega
  have hH2 : w.heap.size ≤ H := by omega
  clear hH
  have hI0 : PIn H B n cb a b w [] W0 := ⟨⟨c0, c1, (fun y h => by cases h), by omega⟩, hB0⟩
  clear c0 c1
  go_wp2_with fail
  refine (wpIn_wide (n := 5)).1 ?_
  refine wpIn_rangeM rfl (by omega) (gf := 137) (lb := #[.pointer (some ⟨H + 1 + 1, 0, none⟩)]) rfl trivial (enters_of Tryz.func137 (by kernel_rfl) rfl)
    (back_stops 4 (H + 2) H A ca n a hn 131 W0 (by omega) c2 hRA) (fun _ h => by cases h) (fun h k => Kept.trans h k)
    (fun W ll o o' hl hw1 hw2 hw3 => ⟨belowK_b (w := W0) (by omega) W ll o o' hl hw1 hw2 hw3, fun u hu => (World.putObj_heap_other (by omega)).trans hu⟩) (Below.refl _ _) (fun _ => rfl)
    (PIn H B n cb a b w) (POut H n a b w) ?hI ?hIx (fun _ _ _ _ _ _ _ => trivial) (fun _ _ _ => trivial) hI0 (PAx H A B n ca cb a) ?hAx ?assign ?body ?done ?stop
  case hI =>
    refine BearsM.of_from (OwnFrom.and (Own.from (fun pre X Y row h hg hr => ?_) _) (ownFrom_below (by omega) (by omega)))
    obtain ⟨i1, i2, i3, i4⟩ := h
    exact ⟨blk_kept i1 hg hr, blk_kept i2 hg hr, i3, Nat.le_trans i4 hg.size⟩
  case hIx =>
    intro cc
    refine BearsM.of_from (OwnFrom.and (Own.from (fun pre X Y row h hg hr => ?_) _) (ownFrom_below (by omega) (by omega)))
    obtain ⟨j1, q, x, v, j2, j3, j4, j5⟩ := h
    exact ⟨j1, q, x, v, j2, j3, j4, blk_kept j5 hg hr⟩
  case hAx =>
    intro x a'
    exact fun s W W' row hs _ _ => hs
  case assign =>
    rintro lp pre x W K hIB hK
    simp only [backEnc]
    change Code.wpIn _ _ _ _ _ { tmps := Array.foldl _ _ (#[23, 24].zip #[Value.int .i64 ((n - 1 - x.1 : Nat) : Int), Value.int .i64 (dg a (n - 1 - x.1))]), defers := _ } W
    obtain ⟨s, hs⟩ : ∃ s, s = n - 1 - x.1 := ⟨_, rfl⟩
    rw [← hs]
    obtain ⟨d, hd⟩ : ∃ d, d = dg a s := ⟨_, rfl⟩
    rw [← hd]
    have HSS := Lib.hid hs
    have HDD := Lib.hid hd
    clear hs hd
    simp only [fold2, List.setIfInBounds_toArray, List.set_cons_zero, List.set_cons_succ]
    gi_wp2
    exact hK _ _ ((KeepsOthers.refl _).from _) (Kept.refl _ _ _) hIB ⟨s, d, _, _, _, _, _, _, _, _, _, _, _, _, _, _, _, _, _, _, _, _, _, _, _, _, _, _, _, _, _, _, _, _, _, HSS.out, HDD.out, rfl⟩
  case body =>
    rintro lp pre x a' W ⟨⟨i1, i2, i3, i4⟩, hB⟩ ⟨s, d, u2, u7, u8, u9, u10, u11, u12, u13, u14, u15, u16, u17, u18, u19, u20, u21, u22, u23, u24, u25, u26, u27, u28, u29, u30, u31, u32, u33, u34, u35, u36, u37, u38, hs, hd, rfl⟩ hlen
    have hsn : s < n := by have := x.2; omega
    have HSS := Lib.hid hs
    have HDD := Lib.hid hd
    obtain ⟨bb, ob, rfl, hbb, hcb⟩ := (HB.out.below (by rw [← HH.out]; exact hB)).at_ (k := s) (by rw [← HNB.out]; exact hsn)
    obtain ⟨e, he⟩ : ∃ e, e = dg b s := ⟨_, rfl⟩
    rw [← he] at hcb
    have HEE := Lib.hid he
    have e1 : W.cell? ⟨H, 0, none⟩ = some (.slice (some ⟨bb, ob, none⟩) n cb) := i1.cell 0
    have c2q : W.cell? ⟨H + 1, 0, none⟩ = some (.int .i64 0) := i2.cell 0
    have f2q : W.frozen? ⟨H + 1, 0, none⟩ = false := i2.frozen 0
    have HI1 := Lib.hid i1
    have HI2 := Lib.hid i2
    have HI3 := Lib.hid i3
    have HBB := Lib.hid hB
    clear hs hd he i1 i2 i3 hB hI0 hRA c2 hB0
    by_cases t1 : d < e
    · have g1 : decide (d < e) = true := decide_eq_true t1
      gi_wp2_with fail
      exact ⟨(KeepsOthers.setCell _ _ _).from _, ⟨rfl, pre, x, -1, rfl, HI3.out, .inl ⟨by rw [← HSS.out, ← HDD.out, ← HEE.out]; exact t1, rfl⟩, HI2.out.set 0 (.int .i64 (-1))⟩, HBB.out.setCell (p := ⟨H + 1, 0, none⟩) (Nat.le_succ _) _⟩
    · have g1 : decide (d < e) = false := decide_eq_false t1
      by_cases t2 : e < d
      · have g2 : decide (e < d) = true := decide_eq_true t2
        gi_wp2_with fail
        exact ⟨(KeepsOthers.setCell _ _ _).from _, ⟨rfl, pre, x, 1, rfl, HI3.out, .inr ⟨by rw [← HSS.out, ← HDD.out, ← HEE.out]; exact t2, rfl⟩, HI2.out.set 0 (.int .i64 1)⟩, HBB.out.setCell (p := ⟨H + 1, 0, none⟩) (Nat.le_succ _) _⟩
      · have g2 : decide (e < d) = false := decide_eq_false t2
        gi_wp2_with fail
        refine ⟨(KeepsOthers.refl _).from _, Kept.refl _ _ _, ⟨HI1.out, HI2.out, fun y hy => ?_, i4⟩, HBB.out⟩
        rcases List.mem_append.1 hy with h | h
        · exact HI3.out y h
        · rw [List.mem_singleton.1 h, ← HSS.out, ← HDD.out, ← HEE.out]
          omega
  case done =>
    rintro D xs W hD rfl ⟨⟨i1, i2, i3, i4⟩, hB⟩ - hK
    have c2q : W.cell? ⟨H + 1, 0, none⟩ = some (.int .i64 0) := i2.cell 0
    have f2q : W.frozen? ⟨H + 1, 0, none⟩ = false := i2.frozen 0
    have HOK := Lib.hid (show sgn (valL a - valL b) = 0 by
      have e : valL a = valL b := by
        rw [valL, valL, ← HNA.out, ← HNB.out]
        refine dsum_congr fun i hi => ?_
        have := i3 ⟨n - 1 - i, by omega⟩ (List.mem_finRange _)
        rwa [show n - 1 - (n - 1 - i) = i by omega] at this
      rw [e]
      unfold sgn
      rw [if_neg (by omega), if_neg (by omega)])
    clear i1 i3 i4
    go_wp2
    have hK' := (KeepsOthers.setCell W ⟨H + 1, 0, none⟩ (.int .i64 0)).same D _ hK rfl
    refine ⟨by simp, .inl ⟨_, _, rfl, run_takeDeferred hK', ?_⟩⟩
    have hc5 := cell_kept ((i2.set 0 (.int .i64 0)).cell 0) (grownBy_putObj' _ D (.deferred none)) (fun r e => by cases e; exact ⟨_, hK', rfl⟩)
    have hc6 : ((W.setCell ⟨H + 1, 0, none⟩ (.int .i64 0)).putObj D (.deferred none)).cell? ⟨H + 1, 0, none⟩ = some (.int .i64 0) := hc5
    refine ⟨.int .i64 0, ?_, by rw [HOK.out], ?_⟩
    · simp [results, Tryz.f81, go_sem, hc6]
    · rw [← HH.out]
      exact (hB.setCell (p := ⟨H + 1, 0, none⟩) (Nat.le_succ _) _).trans (belowK_b (w := W0) (by omega) _ D _ _ hD hK' rfl rfl)
  case stop =>
    rintro D cc pre W hD hpre ⟨⟨rfl, q, x, v, rfl, hq, hv, j5⟩, hB⟩ hK
    have HOK := Lib.hid (show sgn (valL a - valL b) = v by
      have hx : x.1 = q.length := by
        obtain ⟨r, hr⟩ := hpre
        have hx : (List.finRange n)[q.length]? = some x := by rw [← hr, List.append_assoc, List.getElem?_append_right (Nat.le_refl _), Nat.sub_self]; rfl
        have hq := (List.getElem?_eq_some_iff.1 hx).1
        rw [List.getElem?_eq_getElem hq] at hx
        have := Option.some.inj hx
        rw [← this]
        simp
      have hqa : ∀ i, n - 1 - x.1 < i → i < n → dg a i = dg b i := fun i h1 h2 => by
        have hmem : (⟨n - 1 - i, by omega⟩ : Fin n) ∈ q := by
          obtain ⟨r, hr⟩ := hpre
          have e : (List.finRange n)[n - 1 - i]? = some ⟨n - 1 - i, by omega⟩ := by
            rw [List.getElem?_eq_getElem (by simp; omega)]
            simp
          rw [← hr, List.append_assoc, List.getElem?_append_left (by omega)] at e
          exact List.mem_of_getElem? e
        have := hq _ hmem
        rwa [show n - 1 - (n - 1 - i) = i by omega] at this
      have hxn := x.2
      unfold sgn
      rcases hv with ⟨h1, rfl⟩ | ⟨h1, rfl⟩
      · have := dsum_lt_at (HDA.out.digs n) (HDB.out.digs n) (j := n - 1 - x.1) (by omega) hqa h1
        rw [if_pos]
        rw [valL, valL, ← HNA.out, ← HNB.out]
        omega
      · have := dsum_lt_at (HDB.out.digs n) (HDA.out.digs n) (j := n - 1 - x.1) (by omega) (fun i h2 h3 => (hqa i h2 h3).symm) h1
        rw [if_neg, if_pos]
        · rw [valL, valL, ← HNA.out, ← HNB.out]
          omega
        · rw [valL, valL, ← HNA.out, ← HNB.out]
          omega)
    gi_wp2
    refine ⟨by simp, .inl ⟨_, _, rfl, run_takeDeferred hK, ?_⟩⟩
    have hc5 := cell_kept (j5.cell 0) (grownBy_putObj' _ D (.deferred none)) (fun r e => by cases e; exact ⟨_, hK, rfl⟩)
    have hc6 : (W.putObj D (.deferred none)).cell? ⟨H + 1, 0, none⟩ = some (.int .i64 v) := hc5
    refine ⟨.int .i64 v, ?_, by rw [HOK.out], ?_⟩
    · simp [results, Tryz.f81, go_sem, hc6]
    · rw [← HH.out]
      exact hB.trans (belowK_b (w := W0) (by omega) _ D _ _ hD hK rfl rfl)
end Go.Proofs.YtkkcbkfpaoldmaaGreatDoor

/- Walk: nat.compare of any two numbers. -/
namespace Go.Proofs.YtkkcbkfpaoldmaaGreatDoor
open Go Go.RowKit

set_option maxRecDepth 100000 in
set_option linter.unusedSimpArgs false in
set_option linter.unusedVariables false in
set_option maxHeartbeats 4000000 in
theorem compare_any (A B : Option Addr) (a b : List Int) (na nb ca cb : Nat) (hna : na = a.length) (hnb : nb = b.length) (hn : na ≤ 1000000) (hn2 : nb ≤ 1000000) (hda : DigL a) (hdb : DigL b) (ta : TrimL a) (tb : TrimL b) (w : World) (hA : MRd w w.heap.size A a) (hB : MRd w w.heap.size B b) :
    Calls Tryz.prog 81 #[.slice A na ca, .slice B nb cb] w (Ret (.int .i64 (sgn (valL a - valL b))) w) := by
  rcases Nat.lt_trichotomy na nb with h | rfl | h
  · have e : sgn (valL a - valL b) = -1 := by
      have := valL_lt_len hda hdb tb (by omega)
      unfold sgn
      rw [if_pos (by omega)]
    rw [e]
    clear hA hB hda hdb ta tb hna hnb e
    have g1 : ((na : Int) != (nb : Int)) = true := bne_iff_ne.2 (by omega)
    obtain ⟨d, hd⟩ : ∃ d : Int, d = (na : Int) - (nb : Int) := ⟨_, rfl⟩
    have g2 : (na : Int) - (nb : Int) = d := hd.symm
    have g3 : d < 0 := by omega
    have g4 : ¬ (0 < d) := by omega
    have g5 : ¬ (0 ≤ d) := by omega
    have g6 : d ≤ 0 := by omega
    have g7 : wrap64 d = d := wrap_in _ (by omega)
    clear hd
    go_enter Tryz.func81, Tryz.ntmps81
    go_wp2_with fail
    have hc : ((w.alloc (.cells #[.slice B nb cb] 131)).alloc (.cells #[.int .i64 (-1)] 3)).cell? ⟨w.heap.size + 1, 0, none⟩ = some (.int .i64 (-1)) := (Blk.new' (w.alloc (.cells #[.slice B nb cb] 131)) 3 #[.int .i64 (-1)] (by simp)).cell 0
    refine bodyPost_ret (v := .int .i64 (-1)) (by simp only [results, Tryz.f81]; simp [go_sem, hc]) rfl ?_
    exact ⟨rfl, ((Below.refl _ w).alloc (Nat.le_refl _) _).alloc (by simp) _⟩
  · exact compare_same A B a b na ca cb hna hnb hn hda hdb w hA hB
  · have e : sgn (valL a - valL b) = 1 := by
      have := valL_lt_len hdb hda ta (by omega)
      unfold sgn
      rw [if_neg (by omega), if_pos (by omega)]
    rw [e]
    clear hA hB hda hdb ta tb hna hnb e
    have g1 : ((na : Int) != (nb : Int)) = true := bne_iff_ne.2 (by omega)
    obtain ⟨d, hd⟩ : ∃ d : Int, d = (na : Int) - (nb : Int) := ⟨_, rfl⟩
    have g2 : (na : Int) - (nb : Int) = d := hd.symm
    have g3 : ¬ d < 0 := by omega
    have g4 : 0 < d := by omega
    have g5 : 0 ≤ d := by omega
    have g6 : ¬ d ≤ 0 := by omega
    have g7 : wrap64 d = d := wrap_in _ (by omega)
    have g8 : 1 ≤ d := by omega
    have g9 : ¬ d < 1 := by omega
    clear hd
    go_enter Tryz.func81, Tryz.ntmps81
    go_wp2_with fail
    have hc : ((w.alloc (.cells #[.slice B nb cb] 131)).alloc (.cells #[.int .i64 (1)] 3)).cell? ⟨w.heap.size + 1, 0, none⟩ = some (.int .i64 (1)) := (Blk.new' (w.alloc (.cells #[.slice B nb cb] 131)) 3 #[.int .i64 (1)] (by simp)).cell 0
    refine bodyPost_ret (v := .int .i64 (1)) (by simp only [results, Tryz.f81]; simp [go_sem, hc]) rfl ?_
    exact ⟨rfl, ((Below.refl _ w).alloc (Nat.le_refl _) _).alloc (by simp) _⟩
end Go.Proofs.YtkkcbkfpaoldmaaGreatDoor

/- Walks: nat.check of two valid integers, nat.Cmp of integers that are not negative. -/
namespace Go.Proofs.YtkkcbkfpaoldmaaGreatDoor
open Go Go.RowKit

theorem calls_gen {P : Program} {f : FuncId} {args : Array Value} {Q : Ending → World → Prop} {W : World} (p : World → Prop) (hp : p W) (h : ∀ W0, p W0 → Calls P f args W0 Q) : Calls P f args W Q := h W hp
theorem big_range2 {w : World} {g : Nat} {t : TypeId} {n1 n2 : Bool} {A1 A2 : Option Addr} {l1 k1 l2 k2 : Nat} (h : Blk w g t #[.bool n1, .slice A1 l1 k1, .bool n2, .slice A2 l2 k2]) : w.rangeAt g 0 [.bool n1, .slice A1 l1 k1] ∧ w.rangeAt g 2 [.bool n2, .slice A2 l2 k2] := by
  constructor
  · intro j v hv
    rw [Nat.zero_add, h.cell]
    rcases j with _ | _ | j
    · exact hv
    · exact hv
    · cases hv
  · intro j v hv
    rw [h.cell]
    rcases j with _ | _ | j
    · exact hv
    · exact hv
    · cases hv
set_option maxRecDepth 100000 in
set_option linter.unusedSimpArgs false in
set_option linter.unusedVariables false in
set_option maxHeartbeats 4000000 in
theorem ncheck_two (n1 n2 : Bool) (A1 A2 : Option Addr) (l1 k1 l2 k2 : Nat) (a b : List Int) (g : Nat) (w : World) (hg : Blk w g 27 #[.bool n1, .slice A1 l1 k1, .bool n2, .slice A2 l2 k2]) (ha : BigOk w w.heap.size n1 A1 l1 k1 a) (hb : BigOk w w.heap.size n2 A2 l2 k2 b) :
    Calls Tryz.prog 80 #[.slice (some ⟨g, 0, none⟩) 2 2] w (Ret (.tuple #[]) w) := by
  have HG := Lib.hid hg
  have HA := Lib.hid (fun W (h : Below w.heap.size w W) => nCheck_ok n1 A1 l1 k1 a W ((ha.below h).more h.size))
  have HB := Lib.hid (fun W (h : Below w.heap.size w W) => nCheck_ok n2 A2 l2 k2 b W ((hb.below h).more h.size))
  unfold bigV at HA HB
  clear hg ha hb
  go_enter Tryz.func80, Tryz.ntmps80
  go_wp2_with fail
  go_loopw [7] (fun i wr => ∃ k : Nat, k ≤ 2 ∧ i = .int .i64 k ∧ Below w.heap.size w wr) (fun i _ => 2 - (intOf i).toNat)
  case atStart => exact ⟨0, by omega, rfl, Below.refl _ _⟩
  case round =>
    obtain ⟨k, hk, rfl, hB⟩ := hrel
    have hr := big_range2 (HG.out.below hB HG.out.lt)
    have HR1 := Lib.hid hr.1
    have HR2 := Lib.hid hr.2
    clear hr
    rcases k with _ | _ | k
    · go_upto_region 3 with (first
        | (refine load_big rfl _ rfl g 0 n1 A1 l1 k1 HR1.out rfl ?_)
        | (refine store_big rfl _ _ rfl (Blk.new wr 27 _) n1 A1 l1 k1 rfl rfl rfl ?_; intro w5 bx5 hO hz; have hk5 : Below wr.heap.size wr w5 := ((Below.refl _ wr).alloc (Nat.le_refl _) _).trans (hO.toBelow (by simp) (Nat.le_refl _)); clear hO hz))
      have hB5 := hB.trans (hk5.mono hB.size)
      clear hk5
      go_wp2_with (refine load_big rfl _ rfl wr.heap.size 0 n1 A1 l1 k1 (big_range bx5) rfl ?_)
      refine (HA.out w5 hB5).mono ?_
      rintro e w6 ⟨rfl, hb6⟩
      go_wp2_with fail
      go_roundw
      case rel => exact ⟨1, by omega, by go_num, hB5.trans (hb6.mono hB5.size)⟩
      case measure => simp [intOf]
    · go_upto_region 3 with (first
        | (refine load_big rfl _ rfl g 2 n2 A2 l2 k2 HR2.out rfl ?_)
        | (refine store_big rfl _ _ rfl (Blk.new wr 27 _) n2 A2 l2 k2 rfl rfl rfl ?_; intro w5 bx5 hO hz; have hk5 : Below wr.heap.size wr w5 := ((Below.refl _ wr).alloc (Nat.le_refl _) _).trans (hO.toBelow (by simp) (Nat.le_refl _)); clear hO hz))
      have hB5 := hB.trans (hk5.mono hB.size)
      clear hk5
      go_wp2_with (refine load_big rfl _ rfl wr.heap.size 0 n2 A2 l2 k2 (big_range bx5) rfl ?_)
      refine (HB.out w5 hB5).mono ?_
      rintro e w6 ⟨rfl, hb6⟩
      go_wp2_with fail
      go_roundw
      case rel => exact ⟨2, by omega, by go_num, hB5.trans (hb6.mono hB5.size)⟩
      case measure => simp [intOf]
    · obtain rfl : k = 0 := by omega
      go_wp2_with fail
      go_end0
      exact ⟨rfl, hB⟩
set_option maxRecDepth 100000 in
set_option linter.unusedSimpArgs false in
set_option linter.unusedVariables false in
set_option maxHeartbeats 4000000 in
theorem nCmp_ok (A1 A2 : Option Addr) (l1 k1 l2 k2 : Nat) (a b : List Int) (w : World) (ha : BigOk w w.heap.size false A1 l1 k1 a) (hb : BigOk w w.heap.size false A2 l2 k2 b) :
    Calls Tryz.prog 51 #[.agg #[.bool false, .slice A1 l1 k1], .agg #[.bool false, .slice A2 l2 k2]] w (Ret (.tuple #[.int .i64 (sgn (valL a - valL b)), .int .i64 0]) w) := by
  have HC := Lib.hid (fun W g (hg : Blk W g 27 #[.bool false, .slice A1 l1 k1, .bool false, .slice A2 l2 k2]) (h : Below w.heap.size w W) => ncheck_two false false A1 A2 l1 k1 l2 k2 a b g W hg ((ha.below h).more h.size) ((hb.below h).more h.size))
  have HP := Lib.hid (fun W (h : Below w.heap.size w W) => compare_any A1 A2 a b l1 l2 k1 k2 ha.len hb.len (by have := ha.few; omega) (by have := hb.few; omega) ha.dig hb.dig ha.trim hb.trim W ((ha.below h).more h.size).rd ((hb.below h).more h.size).rd)
  obtain ⟨S, hS⟩ : ∃ S, S = sgn (valL a - valL b) := ⟨_, rfl⟩
  rw [← hS] at HP ⊢
  clear ha hb hS
  go_enter_defers Tryz.func51, Tryz.ntmps51
  go_wp2_with fail
  refine calls_gen (fun W => Blk W w.heap.size 27 #[.bool false, .slice A1 l1 k1] ∧ Blk W (w.heap.size + 1) 27 #[.bool false, .slice A2 l2 k2] ∧ Blk W (w.heap.size + 2) 32 #[.int .i64 0] ∧ Blk W (w.heap.size + 3) 27 #[.bool false, .slice A1 l1 k1, .bool false, .slice A2 l2 k2] ∧ Below w.heap.size w W)
    ⟨(((Blk.new w _ _).alloc _).alloc _).alloc _, ((Blk.new' _ _ _ (by simp)).alloc _).alloc _, (Blk.new' _ _ _ (by simp)).alloc _, Blk.new' _ _ _ (by simp), ((((Below.refl _ w).alloc (Nat.le_refl _) _).alloc (by simp) _).alloc (by simp; omega) _).alloc (by simp; omega) _⟩ (fun W0 ⟨b0, b1, b2, b3, hB0⟩ => ?_)
  refine (HC.out W0 _ b3 hB0).mono ?_
  rintro e w1 ⟨rfl, hb1⟩
  have d0 := b0.below hb1 b0.lt
  have d1 := b1.below hb1 b1.lt
  have d2 := b2.below hb1 b2.lt
  have hB1 := hB0.trans (hb1.mono hB0.size)
  have x0 : w1.cell? ⟨w.heap.size, 0, none⟩ = some (.bool false) := d0.cell 0
  have x1 : w1.cell? ⟨w.heap.size, 1, none⟩ = some (.slice A1 l1 k1) := d0.cell 1
  have y0 : w1.cell? ⟨w.heap.size + 1, 0, none⟩ = some (.bool false) := d1.cell 0
  have y1 : w1.cell? ⟨w.heap.size + 1, 1, none⟩ = some (.slice A2 l2 k2) := d1.cell 1
  clear b0 b1 b2 b3 hB0 hb1
  go_wp2_with fail
  refine (HP.out w1 hB1).mono ?_
  rintro e w2 ⟨rfl, hb2⟩
  have e2 := d2.below hb2 d2.lt
  have hB2 := hB1.trans (hb2.mono hB1.size)
  have z0 : w2.cell? ⟨w.heap.size + 2, 0, none⟩ = some (.int .i64 0) := e2.cell 0
  have f0 := e2.frozen 0
  clear x0 x1 y0 y1 hb2 hB1 d0 d1 d2
  go_wp2_with fail
  refine leaves_cons (f := 79) (args := #[.pointer (some ⟨w.heap.size + 2, 0, none⟩)]) (by simp) (by simp [go_sem]) ?_
  refine (ncaught_idle ⟨w.heap.size + 2, 0, none⟩ _).mono ?_
  rintro e u' w'' ⟨rfl, rfl, rfl⟩
  have hc : (w2.setCell ⟨w.heap.size + 2, 0, none⟩ (.int .i64 0)).cell? ⟨w.heap.size + 2, 0, none⟩ = some (.int .i64 0) := (e2.set 0 (.int .i64 0)).cell 0
  simp only [Leaves, settle, results, Tryz.f51]
  simp [go_sem, hc]
  exact ⟨rfl, hB2.setCell (p := ⟨w.heap.size + 2, 0, none⟩) (by show w.heap.size ≤ w.heap.size + 2; omega) _⟩
end Go.Proofs.YtkkcbkfpaoldmaaGreatDoor

/- Walk: nat.carried over the closure of nat.moved. -/
namespace Go.Proofs.YtkkcbkfpaoldmaaGreatDoor
open Go Go.RowKit

theorem carried_row {D D' S s f o : Int} {k : Nat} (hs : s = f + o) (hD : D' = D + (s % 1073741824 - 0) * bp k) (h : D + o * bp k = S) : D' + (s / 1073741824) * bp (k + 1) = S + f * bp k := by
  have h1 := carry_set D 0 s k
  rw [hD, h1, hs]
  grind
set_option maxRecDepth 100000 in
set_option linter.unusedSimpArgs false in
set_option linter.unusedVariables false in
set_option maxHeartbeats 8000000 in
theorem carried_any (p1 p2 : Addr) (n : Nat) (hn : n ≤ 10000) (f : Nat → Int) (hf : ∀ i, i < n → 0 ≤ f i ∧ f i < 1152921504606846976) (w : World)
    (hF : ∀ i : Nat, i < n → ∀ W, Below w.heap.size w W → Calls Tryz.prog 141 #[.int .i64 i, .pointer (some p1), .pointer (some p2)] W (Ret (.int .i64 (f i)) W)) (hS : 0 ≤ dsum f n ∧ dsum f n < bp n) :
    Calls Tryz.prog 133 #[.int .i64 n, .func (.func 141) #[] #[.pointer (some p1), .pointer (some p2)]] w (DigPost (dsum f n) 10000 w) := by
  have HF := Lib.hid hF
  have HFR := Lib.hid hf
  have HS := Lib.hid hS
  clear hF hf hS
  go_enter Tryz.func133, Tryz.ntmps133
  go_wp2_with (refine make_dig rfl _ rfl w.heap.size n rfl (by omega) (Nat.le_refl _) ?_; intro w1 hown1 hg1)
  obtain ⟨g, hg⟩ : ∃ g, g = w.heap.size := ⟨_, rfl⟩
  have hB1 : Below w.heap.size w w1 := ⟨hg1.os, hg1.tape, hg1.output, hg1.size, fun i hi => hg1.block i hi (by simp)⟩
  rw [← hg] at hown1 ⊢
  have HG := Lib.hid hg
  clear hg1 hg
  go_loopw [13, 6] (fun jj ov wr => ∃ (k : Nat) (o : Int) (L : List Int), k ≤ n ∧ jj = .int .i64 k ∧ ov = .int .i64 o ∧ (0 ≤ o ∧ o ≤ 2147483648) ∧ IOwn wr g (.slice (some ⟨g, 0, none⟩) n n) L ∧ L.length = n ∧ DigL L ∧ (∀ j, k ≤ j → dg L j = 0) ∧ dsum (dg L) n + o * bp k = dsum f k ∧ Below g w wr) (fun jj _ _ => n - (intOf jj).toNat)
  case atStart => exact ⟨0, 0, List.replicate n 0, by omega, rfl, rfl, by omega, hown1, by simp, digL_zeros n, fun j _ => dg_zeros n j, by rw [dsum_zeros']; simp [dsum], by rw [HG.out]; exact hB1⟩
  case round =>
    obtain ⟨k, o, L, hk, rfl, rfl, hor, hO, hL, hD, hz, hs, hBr⟩ := hrel
    have HO := Lib.hid hO
    have HD := Lib.hid hD
    have HZ := Lib.hid hz
    have HSS := Lib.hid hs
    have HBR := Lib.hid hBr
    clear hO hD hz hs hBr hown1 hB1
    by_cases hlt : k < n
    · have hfr := HFR.out k hlt
      obtain ⟨y, hy⟩ : ∃ y, y = f k := ⟨_, rfl⟩
      have HC := Lib.hid (HF.out k hlt wr (by rw [← HG.out]; exact HBR.out))
      rw [← hy] at hfr HC
      have HY := Lib.hid hy
      clear hy
      go_wp2_with fail
      refine HC.out.mono ?_
      rintro e w2 ⟨rfl, hb2⟩
      have hgl := HO.out.lt g rfl
      have HO2 := Lib.hid (IOwn.below HO.out hb2)
      have HBR2 := Lib.hid (HBR.out.trans (hb2.mono (by omega)))
      have cm := HO2.out.cellAt hL hlt
      have fm := HO2.out.frozenAt hL k
      obtain ⟨s, hsd⟩ : ∃ s, s = y + o := ⟨_, rfl⟩
      have f3 : y + o = s := hsd.symm
      have f3w : wrap64 s = s := wrap_in _ (by omega)
      have f4 := and_mask s
      have hdr := emod_digit s
      have hor2 : 0 ≤ s / 1073741824 ∧ s / 1073741824 ≤ 2147483648 := by omega
      have HROW := Lib.hid (show dsum (dg (L.set k (s % 1073741824))) n + (s / 1073741824) * bp (k + 1) = dsum f (k + 1) by
        rw [dsum_succ, ← HY.out]
        refine carried_row (o := o) (D := dsum (dg L) n) hsd ?_ HSS.out
        rw [dsum_setL (by omega) hlt, HZ.out k (Nat.le_refl _)])
      obtain ⟨d, hd⟩ : ∃ d, d = s % 1073741824 := ⟨_, rfl⟩
      obtain ⟨o2, ho2⟩ : ∃ o2, o2 = s / 1073741824 := ⟨_, rfl⟩
      rw [← hd] at HROW f4 hdr
      rw [← ho2] at HROW hor2
      have f5 : s / 1073741824 = o2 := ho2.symm
      clear hsd hd ho2 hb2
      go_wp2_with fail
      go_roundw
      case rel =>
        have hs2 := HO2.out.set hL k d
        refine ⟨k + 1, o2, L.set k d, by omega, by go_num, rfl, hor2, hs2.1, by rw [List.length_set]; exact hL, HD.out.set k hdr, fun j hj => ?_, HROW.out, HO2.out.belowSet HBR2.out (Nat.le_refl _)⟩
        rw [dg_set (by omega), if_neg (by omega)]
        exact HZ.out j (by omega)
      case measure => simp [intOf]; omega
    · obtain rfl : k = n := by omega
      have ho0 := over_zero HSS.out (dsum_range (HD.out.digs k)) HS.out
      have hv : dsum (dg L) k = dsum f k := by
        have := HSS.out
        rw [ho0, Int.zero_mul, Int.add_zero] at this
        exact this
      have HV := Lib.hid hv
      clear hv ho0
      have HT := Lib.hid (trim_any (some ⟨g, 0, none⟩) L k k hL.symm (Nat.le_refl _) (by omega) (by omega) wr (mrd_own HO.out hL))
      go_wp2_with fail
      refine HT.out.mono ?_
      rintro e w2 ⟨rfl, hb2⟩
      go_wp2_with fail
      go_ret
      have hlen := trimmed_len L
      rw [hL] at hlen
      refine ⟨trimmed L, some ⟨g, 0, none⟩, k, by rw [hlen]; rfl, by rw [hlen]; exact tlen_le _ _, hn, fun h => (by cases h), trimmed_dig HD.out, trimmed_trim L, ?_, ?_, by rw [← HG.out]; exact HBR.out.trans (hb2.mono (by have := HO.out.lt g rfl; omega))⟩
      · rw [trimmed_val, valL, hL, HV.out]
      · have h := (IOwn.below HO.out (hb2.mono (Nat.le_refl _))).cut hL (tlen_le L k)
        rw [← HG.out, hlen]
        rw [trimmed, hL]
        exact h
end Go.Proofs.YtkkcbkfpaoldmaaGreatDoor

/- Walks: nat.at, moved$1, moved. -/
namespace Go.Proofs.YtkkcbkfpaoldmaaGreatDoor
open Go Go.RowKit

set_option maxRecDepth 100000 in
set_option linter.unusedSimpArgs false in
set_option linter.unusedVariables false in
set_option maxHeartbeats 2000000 in
theorem at_any (A : Option Addr) (l : List Int) (n c i : Nat) (hn : n = l.length) (hi : i ≤ 1000000) (w : World) (hR : MRd w w.heap.size A l) : Calls Tryz.prog 135 #[.slice A n c, .int .i64 i] w (fun e w' => e = .returned (.int .i64 (dg l i)) ∧ w = w') := by
  by_cases h : i < n
  · obtain ⟨b, off, rfl, -, hc⟩ := hR.at_ (k := i) (by rw [← hn]; exact h)
    obtain ⟨x, hx⟩ : ∃ x, x = dg l i := ⟨_, rfl⟩
    rw [← hx] at hc ⊢
    clear hR hn hx
    go_enter Tryz.func135, Tryz.ntmps135
    go_wp2_with fail
    go_ret
    exact ⟨rfl, rfl⟩
  · have e : dg l i = 0 := dg_out (by omega)
    rw [e]
    clear hR hn e
    go_enter Tryz.func135, Tryz.ntmps135
    go_wp2_with fail
    go_ret
    exact ⟨rfl, rfl⟩
theorem pow_range (s : Nat) (hs : s < 30) : 1 ≤ (2 : Int) ^ s ∧ (2 : Int) ^ s ≤ 536870912 := by
  have h1 : (2 : Nat) ^ s ≤ 2 ^ 29 := Nat.pow_le_pow_right (by decide) (by omega)
  have h2 : 0 < (2 : Nat) ^ s := Nat.pow_pos (by decide)
  have e : ((2 ^ s : Nat) : Int) = (2 : Int) ^ s := by simp
  have h3 : (2 : Nat) ^ 29 = 536870912 := by decide
  omega
set_option maxRecDepth 100000 in
set_option linter.unusedSimpArgs false in
set_option linter.unusedVariables false in
set_option maxHeartbeats 2000000 in
theorem moved1_any (A : Option Addr) (l : List Int) (n c i s g1 g2 : Nat) (t1 t2 : TypeId) (hn : n = l.length) (hi : i ≤ 1000000) (hs : s < 30) (hd : DigL l) (w : World) (hR : MRd w w.heap.size A l) (h1 : Blk w g1 t1 #[.slice A n c]) (h2 : Blk w g2 t2 #[.int .i64 s]) :
    Calls Tryz.prog 141 #[.int .i64 i, .pointer (some ⟨g1, 0, none⟩), .pointer (some ⟨g2, 0, none⟩)] w (Ret (.int .i64 (dg l i * 2 ^ s)) w) := by
  have HC := Lib.hid (fun j : Ext w => at_any A l n c i hn hi j.W ((hR.below j.below).more j.below.size))
  have hxr := hd.digs (i + 1) i (by omega)
  obtain ⟨x, hx⟩ : ∃ x, x = dg l i := ⟨_, rfl⟩
  rw [← hx] at HC hxr ⊢
  have k1 : ∀ j : Ext w, j.W.cell? ⟨g1, 0, none⟩ = some (.slice A n c) := Ext.cell (h1.cell 0)
  have k2 : ∀ j : Ext w, j.W.cell? ⟨g2, 0, none⟩ = some (.int .i64 s) := Ext.cell (h2.cell 0)
  have hp := pow_range s hs
  obtain ⟨y, hy⟩ : ∃ y, y = x * 2 ^ s := ⟨_, rfl⟩
  have hyr : 0 ≤ y ∧ y ≤ 576460751766552576 := by
    rw [hy]
    refine ⟨Int.mul_nonneg hxr.1 (by omega), ?_⟩
    have h3 : x * 2 ^ s ≤ 1073741823 * 2 ^ s := Int.mul_le_mul_of_nonneg_right (by omega) (by omega)
    omega
  have hy1 : x * 2 ^ s = y := hy.symm
  have hy2 : wrap64 y = y := wrap_in _ (by omega)
  rw [← hy]
  clear hx hR h1 h2 hn hd hp hy
  go_enter Tryz.func141, Tryz.ntmps141
  go_wp2_with fail
  refine wp_region_quiet_ext (by kernel_rfl) (by kernel_rfl) ?_
  repeat (go_big_quiet_step ((go_at_call 135; exact Ext.same (HC.out _))))
  refine wpQuiet_nil ?_
  rintro Wd ⟨⟨_, hWd⟩, rfl⟩
  go_wp2_with fail
  go_ret
  exact ⟨rfl, hWd⟩
theorem IOwn.base {w : World} {B B' : Nat} {v : Value} {l : List Int} (h : IOwn w B v l) (hB : B' ≤ B) : IOwn w B' v l := by
  refine ⟨h.1, ?_⟩
  rcases h.2 with h2 | ⟨g, cap, cur, e, hb, h3⟩
  · exact .inl h2
  · exact .inr ⟨g, cap, cur, e, by omega, h3⟩
theorem dsum_mul (f : Nat → Int) (c : Int) (n : Nat) : dsum (fun i => f i * c) n = dsum f n * c := by
  induction n with
  | zero => simp [dsum]
  | succ n ih => rw [dsum_succ, dsum_succ, ih]; grind
set_option maxRecDepth 100000 in
set_option linter.unusedSimpArgs false in
set_option linter.unusedVariables false in
set_option maxHeartbeats 2000000 in
theorem moved_any (A : Option Addr) (l : List Int) (n c s : Nat) (hn : n = l.length) (hn2 : n ≤ 5000) (hs : s < 30) (hd : DigL l) (w : World) (hR : MRd w w.heap.size A l) :
    Calls Tryz.prog 127 #[.slice A n c, .int .i64 s] w (DigPost (valL l * 2 ^ s) 10000 w) := by
  have hp := pow_range s hs
  have hv := valL_range hd
  have hsum : dsum (fun i => dg l i * 2 ^ s) (n + 1) = valL l * 2 ^ s := by rw [dsum_mul, valL_more (by omega)]
  have hS : 0 ≤ dsum (fun i => dg l i * 2 ^ s) (n + 1) ∧ dsum (fun i => dg l i * 2 ^ s) (n + 1) < bp (n + 1) := by
    rw [hsum]
    refine ⟨Int.mul_nonneg hv.1 (by omega), ?_⟩
    have h1 : valL l * 2 ^ s ≤ valL l * 536870912 := Int.mul_le_mul_of_nonneg_left hp.2 hv.1
    rw [bp_succ, hn]
    omega
  have hfr : ∀ i, i < n + 1 → 0 ≤ dg l i * 2 ^ s ∧ dg l i * 2 ^ s < 1152921504606846976 := fun i _ => by
    have hxr := hd.digs (i + 1) i (by omega)
    refine ⟨Int.mul_nonneg hxr.1 (by omega), ?_⟩
    have h3 : dg l i * 2 ^ s ≤ 1073741823 * 2 ^ s := Int.mul_le_mul_of_nonneg_right (by omega) (by omega)
    omega
  have HC := Lib.hid (fun W g1 g2 (h1 : Blk W g1 131 #[.slice A n c]) (h2 : Blk W g2 3 #[.int .i64 s]) (hb : Below w.heap.size w W) =>
    carried_any ⟨g1, 0, none⟩ ⟨g2, 0, none⟩ (n + 1) (by omega) (fun i => dg l i * 2 ^ s) hfr W (fun i hi V hV => moved1_any A l n c i s g1 g2 _ _ hn (by omega) hs hd V ((hR.below (hb.trans (hV.mono hb.size))).more (Nat.le_trans hb.size hV.size)) (h1.below hV h1.lt) (h2.below hV h2.lt)) hS)
  rw [hsum] at HC
  have hmf : ∀ (fn : Fn) (first cap : Array Value) (w : World), (Instr.makeFunc fn first cap).run Tryz.prog w = .ok (.func fn first cap) w := fun _ _ _ _ => rfl
  obtain ⟨m, hm⟩ : ∃ m, m = n + 1 := ⟨_, rfl⟩
  have hm1 : (n : Int) + 1 = (m : Int) := by omega
  have hm2 : wrap64 (m : Int) = (m : Int) := wrap_in _ (by omega)
  rw [← hm] at HC
  clear hR hd hn hs hp hv hsum hS hfr hm
  go_enter Tryz.func127, Tryz.ntmps127
  go_wp2_with fail
  refine calls_gen (fun W => Blk W w.heap.size 131 #[.slice A n c] ∧ Blk W (w.heap.size + 1) 3 #[.int .i64 s] ∧ Below w.heap.size w W) ⟨(Blk.new w _ _).alloc _, Blk.new' _ _ _ (by simp), ((Below.refl _ w).alloc (Nat.le_refl _) _).alloc (by simp) _⟩ (fun W0 ⟨b0, b1, hB0⟩ => ?_)
  refine (HC.out W0 _ _ b0 b1 hB0).mono ?_
  rintro e w2 ⟨q, A2, c2, rfl, h1, h2, h3, h4, h5, h6, h7, h8⟩
  obtain ⟨ql, hql⟩ : ∃ ql, ql = q.length := ⟨_, rfl⟩
  rw [← hql]
  have HQ := Lib.hid hql
  have H7 := Lib.hid h7
  clear h7 hql HC
  go_wp2_with fail
  go_ret
  refine ⟨q, A2, c2, by rw [← HQ.out]; rfl, h1, h2, h3, h4, h5, h6, ?_, hB0.trans (h8.mono hB0.size)⟩
  exact H7.out.base hB0.size
end Go.Proofs.YtkkcbkfpaoldmaaGreatDoor

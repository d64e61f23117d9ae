/- Walk: beacon.rising, over whatever iterator. -/
import Derived.Test.YtibnikokgbfcdaaDoorC3
import Derived.Test.YtibnikokgbfcdaaDoorBM
namespace Go.Proofs.YtibnikokgbfcdaaDoor
open Go Go.RowKit Go.Shelf
attribute [local go_sem] Oper.semAt_some

def lastOf (l : List Int) : Int := l.getLast?.getD (-1)
/-- Strictly increasing numbers of parties. -/
def pinc (l : List Int) : Prop := ∀ q x, (q ++ [x]) <+: l → lastOf q < x ∧ x < 24
theorem pinc_nil : pinc [] := fun q x h => by
  have := h.length_le
  simp at this
theorem pinc_pre {l m : List Int} (h : pinc m) (hl : l <+: m) : pinc l := fun q x hq => h q x (hq.trans hl)
theorem pinc_snoc {l : List Int} {x : Int} : pinc (l ++ [x]) ↔ pinc l ∧ lastOf l < x ∧ x < 24 := by
  constructor
  · intro h
    exact ⟨pinc_pre h (List.prefix_append _ _), h l x (List.prefix_refl _)⟩
  · rintro ⟨h1, h2⟩ q y hq
    rcases List.prefix_concat_iff.1 hq with e | h
    · obtain ⟨rfl, e2⟩ := List.append_inj' e rfl
      obtain rfl := List.singleton_inj.1 e2
      exact h2
    · exact h1 q y h
theorem lastOf_snoc (l : List Int) (x : Int) : lastOf (l ++ [x]) = x := by simp [lastOf]
theorem pinc_length {l : List Int} (h : pinc l) : (l.length : Int) ≤ lastOf l + 1 ∧ lastOf l < 24 := by
  rcases List.eq_nil_or_concat l with rfl | ⟨q, x, rfl⟩
  · exact ⟨by simp [lastOf], by simp [lastOf]⟩
  · rw [List.concat_eq_append] at h ⊢
    obtain ⟨h1, h2, h3⟩ := pinc_snoc.1 h
    have ih := (pinc_length h1).1
    rw [lastOf_snoc, List.length_append, List.length_singleton]
    exact ⟨by omega, h3⟩
termination_by l.length
decreasing_by all_goals simp_wf; simp_all
theorem pinc_le {l : List Int} (h : pinc l) : l.length ≤ 24 := by
  have := pinc_length h
  omega
theorem pinc_iff (l : List Pd) : pinc (l.map Pd.party) ↔ inForm l := by
  have get : ∀ k, k < l.length → (l.map Pd.party).getD k 0 = (l.getD k pd0).party := fun k hk => by
    simp [List.getD_eq_getElem?_getD, List.getElem?_eq_getElem hk]
  have tk : ∀ k, k < l.length → (l.map Pd.party).take (k + 1) = (l.map Pd.party).take k ++ [(l.getD k pd0).party] := fun k hk => by
    rw [List.take_succ_eq_append_getElem (by simpa using hk)]
    simp [List.getD_eq_getElem?_getD, List.getElem?_eq_getElem hk]
  have lt : ∀ k, k < l.length → lastOf ((l.map Pd.party).take (k + 1)) = (l.getD k pd0).party := fun k hk => by rw [tk k hk, lastOf_snoc]
  constructor
  · intro h
    have key : ∀ k, k < l.length → lastOf ((l.map Pd.party).take k) < (l.getD k pd0).party ∧ (l.getD k pd0).party < 24 := fun k hk => h _ _ (by rw [← tk k hk]; exact List.take_prefix _ _)
    have pos : ∀ k, k < l.length → 0 ≤ (l.getD k pd0).party := by
      intro k
      induction k with
      | zero => intro hk; have := (key 0 hk).1; rw [List.take_zero] at this; change (-1 : Int) < _ at this; omega
      | succ k ih =>
        intro hk
        have h1 := (key (k + 1) hk).1
        rw [lt k (by omega)] at h1
        have := ih (by omega)
        omega
    intro k hk
    refine ⟨pos k hk, (key k hk).2, fun h0 => ?_⟩
    have h1 := (key k hk).1
    obtain ⟨j, rfl⟩ : ∃ j, k = j + 1 := ⟨k - 1, by omega⟩
    rw [lt j (by omega)] at h1
    exact h1
  · intro h q x hq
    have hql := hq.length_le
    rw [List.length_append, List.length_singleton, List.length_map] at hql
    have e := (List.prefix_iff_eq_take.1 hq)
    rw [List.length_append, List.length_singleton, tk q.length (by omega)] at e
    obtain ⟨e1, e2⟩ := List.append_inj' e rfl
    have e3 := List.singleton_inj.1 e2
    subst e3
    obtain ⟨h1, h2, h3⟩ := h q.length (by omega)
    refine ⟨?_, h2⟩
    have e4 : lastOf q = lastOf ((l.map Pd.party).take q.length) := by rw [← e1]
    rw [e4]
    rcases Nat.eq_zero_or_pos q.length with h0 | h0
    · rw [h0] at h1 ⊢
      rw [List.take_zero]
      change (-1 : Int) < _
      omega
    · obtain ⟨j, hj⟩ : ∃ j, q.length = j + 1 := ⟨q.length - 1, by omega⟩
      have h4 := h3 h0
      rw [hj] at h4 ⊢
      rw [lt j (by omega)]
      rw [Nat.add_sub_cancel] at h4
      exact h4
theorem fold1 (T : Array Value) (p : Tmp) (a : Value) : Array.foldl (fun t (x : Tmp × Value) => t.setIfInBounds x.1 x.2) T (#[p].zip #[a]) = T.setIfInBounds p a := by simp
def RIn (w : World) (Mb : Option Nat) {m : Nat} (f : Fin m → Int) (pre : List (Fin m)) (W : World) : Prop :=
  Blk W w.heap.size 4 #[.bool false] ∧ Blk W (w.heap.size + 1) 3 #[.int .i64 (lastOf (pre.map f))] ∧ pinc (pre.map f) ∧ w.grownBy W Mb
def ROut (w : World) (Mb : Option Nat) {m : Nat} (f : Fin m → Int) (pre : List (Fin m)) (W : World) : Prop :=
  Blk W w.heap.size 4 #[.bool false] ∧ ¬ pinc (pre.map f) ∧ w.grownBy W Mb
def RAx (H gf : Nat) (lb : Array Value) (v : Value) (a' : Act) : Prop :=
  ∃ u1 u7 u8 u9 u10 u11 u12 u13 u14 : Value, a' = { tmps := #[.func (.func gf) #[] lb, u1, .pointer (some ⟨H, 0, none⟩), .pointer (some ⟨H + 1, 0, none⟩), v, .func (.func gf) #[] lb, v, u7, u8, u9, u10, u11, u12, u13, u14], defers := [] }
theorem grownBy_trans_mb {w W W' : World} {Mb row : Option Nat} (h : w.grownBy W Mb) (hg : W.grownBy W' row) (hr : ∀ r, row = some r → w.heap.size ≤ r ∨ Mb = some r) : w.grownBy W' Mb :=
  ⟨hg.os.trans h.os, hg.tape.trans h.tape, hg.output.trans h.output, Nat.le_trans h.size hg.size, fun k hk hne => (hg.block k (Nat.lt_of_lt_of_le hk h.size) (fun e => by
    rcases hr k e.symm with h1 | h1
    · omega
    · exact hne h1.symm)).trans (h.block k hk hne)⟩
theorem grownBy_below_mb {w W W' : World} {Mb : Option Nat} (h : w.grownBy W Mb) (hb : Below w.heap.size W W') : w.grownBy W' Mb :=
  ⟨hb.os.trans h.os, hb.tape.trans h.tape, hb.output.trans h.output, Nat.le_trans h.size hb.size, fun k hk hne => (hb.block k hk).trans (h.block k hk hne)⟩
/-- What rising returns. -/
def RisePost {m : Nat} (f : Fin m → Int) (Mb : Option Nat) (T : List (Fin m) → World → Prop) (w : World) (e : Ending) (w' : World) : Prop :=
  ∃ r, e = .returned (.bool r) ∧ w.grownBy w' Mb ∧ ((r = true ∧ pinc ((List.finRange m).map f) ∧ T (List.finRange m) w') ∨ (r = false ∧ ¬ pinc ((List.finRange m).map f)))
set_option maxRecDepth 100000 in
set_option linter.unusedSimpArgs false in
set_option linter.unusedVariables false in
set_option maxHeartbeats 4000000 in
theorem rising_gen {m : Nat} (f : Fin m → Int) (gf : Nat) (lb : Array Value) (Kp : World → World → Prop) (Mb : Option Nat) (T : List (Fin m) → World → Prop) (w : World) (eg : ∀ args w, (callFunc gf args).run Tryd.prog w = .ok (.enter gf args) w)
    (hseq : SeqM Fence.wide 4 Tryd.prog gf lb (fun x => #[.int .i64 (f x)]) Kp Mb (fun pre => pinc (pre.map f)) (fun xs => xs = List.finRange m) (fun pre => pre <+: List.finRange m) T m w) (hMb : ∀ b, Mb = some b → b < w.heap.size)
    (hKt : ∀ {A B C : World}, Kp A B → Kp B C → Kp A C) (hKB : ∀ W W', Below w.heap.size W W' → Kp W W') (hT : ∀ xs W W' row, T xs W → W.grownBy W' row → (∀ r, row = some r → w.heap.size ≤ r) → T xs W') :
    Calls Tryd.prog 93 #[.func (.func gf) #[] lb] w (RisePost f Mb T w) := by
  have HT := Lib.hid hT
  clear hT
  refine (callsIn_wide (n := 5)).1 ?_
  refine callsIn_of_wp_marks Tryd.func93 rfl trivial ?_ rfl
  simp only [Tryd.ntmps93, List.size_toArray, List.length_cons, List.length_nil, Nat.reduceAdd, Nat.reduceSub, Array.replicate_succ, Array.replicate_zero, List.push_toArray, List.append_toArray, List.nil_append, List.cons_append]
  refine wpIn_wide.2 ?_
  go_wp2_with fail
  have c0 : Blk ((w.alloc (.cells #[.bool false] 4)).alloc (.cells #[.int .i64 (-1)] 3)) w.heap.size 4 #[.bool false] := (Blk.new w _ _).alloc _
  have c1 : Blk ((w.alloc (.cells #[.bool false] 4)).alloc (.cells #[.int .i64 (-1)] 3)) (w.heap.size + 1) 3 #[.int .i64 (-1)] := Blk.new' _ _ _ (by simp)
  have hb : Below w.heap.size w ((w.alloc (.cells #[.bool false] 4)).alloc (.cells #[.int .i64 (-1)] 3)) := ((Below.refl _ w).alloc (Nat.le_refl _) _).alloc (by simp) _
  have hz : ((w.alloc (.cells #[.bool false] 4)).alloc (.cells #[.int .i64 (-1)] 3)).heap.size = w.heap.size + 2 := by simp
  generalize (w.alloc (.cells #[.bool false] 4)).alloc (.cells #[.int .i64 (-1)] 3) = W0 at c0 c1 hb hz ⊢
  have hI0 : RIn w Mb f [] W0 := ⟨c0, c1, pinc_nil, ⟨hb.os, hb.tape, hb.output, hb.size, fun i hi _ => hb.block i hi⟩⟩
  have HMB := Lib.hid hMb
  refine (wpIn_wide (n := 5)).1 ?_
  refine wpIn_rangeM rfl (by omega) (gf := gf) (lb := lb) rfl trivial eg hseq (fun b e => Nat.lt_of_lt_of_le (hMb b e) hb.size) (fun h k => hKt h k)
    (fun W ll o o' hl hw1 hw2 hw3 => hKB _ _ (belowK_b (w := W0) hb.size W ll o o' hl hw1 hw2 hw3)) hb (fun _ => rfl)
    (RIn w Mb f) (fun cc pre W => cc = .ret ∧ ROut w Mb f pre W) ?hI ?hIx ?hTb ?hG hI0 (fun x a' _ => RAx w.heap.size gf lb (.int .i64 (f x)) a') ?hAx ?assign ?body ?done ?stop
  case hI =>
    intro pre X Y row h hg hr
    obtain ⟨i1, i2, i3, i4⟩ := h
    have hne : ∀ g, g < w.heap.size + 2 → w.heap.size ≤ g → some g ≠ row := fun g h1 h2 e => by
      rcases hr g e.symm with ⟨h3, -⟩ | h3
      · omega
      · have := HMB.out g h3; omega
    refine ⟨i1.grown hg (hne _ (by omega) (Nat.le_refl _)), i2.grown hg (hne _ (by omega) (by omega)), i3, grownBy_trans_mb i4 hg fun r e => ?_⟩
    rcases hr r e with ⟨h3, -⟩ | h3
    · exact .inl (by omega)
    · exact .inr h3
  case hIx =>
    intro cc pre X Y row h hg hr
    obtain ⟨e1, i1, i3, i4⟩ := h
    refine ⟨e1, i1.grown hg (fun e => ?_), i3, grownBy_trans_mb i4 hg fun r e => ?_⟩
    · rcases hr _ e.symm with ⟨h3, -⟩ | h3
      · omega
      · have := HMB.out _ h3; omega
    · rcases hr r e with ⟨h3, -⟩ | h3
      · exact .inl (by omega)
      · exact .inr h3
  case hTb =>
    intro xs X Y row h hg hr
    refine HT.out _ _ _ row h hg fun r e => ?_
    rcases hr r e with ⟨h3, -⟩ | h3
    · omega
    · cases h3
  case hG => exact fun pre W h => h.2.2.1
  case hAx => exact fun x a' => BearsM.pure _ _ _ (fun _ => RAx w.heap.size gf lb (.int .i64 (f x)) a')
  case assign =>
    rintro lp pre x W K hIB hK
    change Code.wpIn _ _ _ _ _ { tmps := Array.foldl _ _ (#[6].zip #[Value.int .i64 (f x)]), defers := _ } W
    simp only [fold1, List.setIfInBounds_toArray, List.set_cons_zero, List.set_cons_succ]
    gi_wp2
    exact hK _ _ ((KeepsOthers.refl _).from _) (hKB _ _ (Below.refl _ _)) hIB ⟨_, _, _, _, _, _, _, _, _, rfl⟩
  case body =>
    rintro lp pre x a' W ⟨i1, i2, i3, i4⟩ ⟨u1, u7, u8, u9, u10, u11, u12, u13, u14, rfl⟩ hlen
    have hmap : (pre ++ [x]).map f = pre.map f ++ [f x] := by simp
    obtain ⟨L, hL⟩ : ∃ L, L = lastOf (pre.map f) := ⟨_, rfl⟩
    rw [← hL] at i2
    have HL := Lib.hid hL
    obtain ⟨v, hv⟩ : ∃ v, v = f x := ⟨_, rfl⟩
    have HV := Lib.hid hv
    rw [← hv] at hmap ⊢
    have e1 : W.cell? ⟨w.heap.size, 0, none⟩ = some (.bool false) := i1.cell 0
    have e2 : W.cell? ⟨w.heap.size + 1, 0, none⟩ = some (.int .i64 L) := i2.cell 0
    have q1 : W.frozen? ⟨w.heap.size, 0, none⟩ = false := i1.frozen 0
    have q2 : W.frozen? ⟨w.heap.size + 1, 0, none⟩ = false := i2.frozen 0
    have HMAP := Lib.hid hmap
    clear hL hv hmap
    by_cases t1 : v ≤ L
    · have g1 : decide (v ≤ L) = true := decide_eq_true t1
      have hno : ¬ pinc ((pre ++ [x]).map f) := fun h => by
        rw [HMAP.out] at h
        have := (pinc_snoc.1 h).2.1
        rw [← HL.out] at this
        omega
      have HNO := Lib.hid hno
      clear t1 hno
      gi_wp2_with fail
      exact ⟨(KeepsOthers.setCell _ _ _).from _, rfl, i1.set 0 (.bool false), HNO.out, grownBy_trans_mb i4 (Only.set (Only.refl W w.heap.size) (.inl rfl) _) (fun r e => .inl (by cases e; exact Nat.le_refl _))⟩
    have g1 : decide (v ≤ L) = false := decide_eq_false t1
    by_cases t2 : 24 ≤ v
    · have g2 : decide (24 ≤ v) = true := decide_eq_true t2
      have hno : ¬ pinc ((pre ++ [x]).map f) := fun h => by
        rw [HMAP.out] at h
        have := (pinc_snoc.1 h).2.2
        omega
      have HNO := Lib.hid hno
      clear t1 t2 hno
      gi_wp2_with fail
      exact ⟨(KeepsOthers.setCell _ _ _).from _, rfl, i1.set 0 (.bool false), HNO.out, grownBy_trans_mb i4 (Only.set (Only.refl W w.heap.size) (.inl rfl) _) (fun r e => .inl (by cases e; exact Nat.le_refl _))⟩
    have g2 : decide (24 ≤ v) = false := decide_eq_false t2
    have hyes : pinc ((pre ++ [x]).map f) := by
      rw [HMAP.out]
      exact pinc_snoc.2 ⟨i3, by rw [← HL.out]; omega, by omega⟩
    have HYES := Lib.hid hyes
    clear t1 t2 hyes
    gi_wp2_with fail
    have hon : Only W (W.setCell ⟨w.heap.size + 1, 0, none⟩ (.int .i64 v)) (w.heap.size + 1) := Only.set (Only.refl W (w.heap.size + 1)) (.inl rfl) _
    refine ⟨(KeepsOthers.setCell _ _ _).from _, hKB _ _ ((Below.refl _ _).setCell (p := ⟨w.heap.size + 1, 0, none⟩) (Nat.le_succ _) _), i1.far (p := ⟨w.heap.size + 1, 0, none⟩) (by show w.heap.size ≠ w.heap.size + 1; omega) _, ?_, HYES.out, grownBy_trans_mb i4 hon (fun r e => .inl (by cases e; exact Nat.le_succ _))⟩
    rw [HMAP.out, lastOf_snoc]
    exact i2.set 0 (.int .i64 v)
  case done =>
    rintro D xs W hD rfl ⟨i1, i2, i3, i4⟩ ht hK
    have e1 : W.cell? ⟨w.heap.size, 0, none⟩ = some (.bool false) := i1.cell 0
    have q1 : W.frozen? ⟨w.heap.size, 0, none⟩ = false := i1.frozen 0
    have HI3 := Lib.hid i3
    have HT1 := Lib.hid ht
    clear i3 ht
    go_wp2
    have hK' := (KeepsOthers.setCell W ⟨w.heap.size, 0, none⟩ (.bool true)).same D _ hK rfl
    refine ⟨by simp, .inl ⟨_, _, rfl, run_takeDeferred hK', ?_⟩⟩
    have hc5 := cell_kept ((i1.set 0 (.bool true)).cell 0) (grownBy_putObj' _ D (.deferred none)) (fun r e => by cases e; exact ⟨_, hK', rfl⟩)
    have hc6 : ((W.setCell ⟨w.heap.size, 0, none⟩ (.bool true)).putObj D (.deferred none)).cell? ⟨w.heap.size, 0, none⟩ = some (.bool true) := hc5
    have hon : Only W (W.setCell ⟨w.heap.size, 0, none⟩ (.bool true)) w.heap.size := Only.set (Only.refl W w.heap.size) (.inl rfl) _
    have hpo := grownBy_putObj' (W.setCell ⟨w.heap.size, 0, none⟩ (.bool true)) D (.deferred none)
    have hDl : w.heap.size ≤ D := by omega
    refine ⟨.bool true, ?_, true, rfl, grownBy_trans_mb (grownBy_trans_mb i4 hon (fun r e => .inl (by cases e; exact Nat.le_refl _))) hpo (fun r e => .inl (by cases e; exact hDl)), .inl ⟨rfl, HI3.out, HT.out _ _ _ (some D) (HT.out _ _ _ _ HT1.out hon (fun r e => by cases e; exact Nat.le_refl _)) hpo (fun r e => by cases e; exact hDl)⟩⟩
    simp [results, Tryd.f93, go_sem, hc6]
  case stop =>
    rintro D cc pre W hD hpre ⟨rfl, i1, i2, i3⟩ hK
    have hno : ¬ pinc ((List.finRange m).map f) := fun h => i2 (pinc_pre h (hpre.map f))
    have HNO := Lib.hid hno
    clear hno
    gi_wp2
    refine ⟨by simp, .inl ⟨_, _, rfl, run_takeDeferred hK, ?_⟩⟩
    have hc5 := cell_kept (i1.cell 0) (grownBy_putObj' _ D (.deferred none)) (fun r e => by cases e; exact ⟨_, hK, rfl⟩)
    have hc6 : (W.putObj D (.deferred none)).cell? ⟨w.heap.size, 0, none⟩ = some (.bool false) := hc5
    have hDl : w.heap.size ≤ D := by omega
    refine ⟨.bool false, ?_, false, rfl, grownBy_trans_mb i3 (grownBy_putObj' W D (.deferred none)) (fun r e => .inl (by cases e; exact hDl)), .inr ⟨rfl, HNO.out⟩⟩
    simp [results, Tryd.f93, go_sem, hc6]
end Go.Proofs.YtibnikokgbfcdaaDoor

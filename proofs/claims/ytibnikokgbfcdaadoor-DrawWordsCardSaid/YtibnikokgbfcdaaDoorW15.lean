/- Walk: draw.Number. -/
import Derived.Test.YtibnikokgbfcdaaDoorW14
namespace Go.Proofs.YtibnikokgbfcdaaDoor
open Go.RowKit Go.Shelf
attribute [local go_sem] Oper.semAt_some

/-- What the first of some words that is taken gives. -/
def firstOf (n : Int) : List W32 → Int
  | [] => 0
  | x :: l => if (takeOf (x.1 : Int) n).2.1 then (takeOf (x.1 : Int) n).1 else firstOf n l
theorem firstOf_none (n : Int) : ∀ l : List W32, (∀ x ∈ l, (takeOf (x.1 : Int) n).2.1 = false) → firstOf n l = 0
  | [], _ => rfl
  | x :: l, h => by rw [firstOf, if_neg (by rw [h x (by simp)]; decide)]; exact firstOf_none n l fun y hy => h y (by simp [hy])
theorem firstOf_at (n : Int) (x : W32) (hx : (takeOf (x.1 : Int) n).2.1 = true) (r : List W32) : ∀ l : List W32, (∀ y ∈ l, (takeOf (y.1 : Int) n).2.1 = false) → firstOf n (l ++ x :: r) = (takeOf (x.1 : Int) n).1
  | [], _ => by rw [List.nil_append, firstOf, if_pos hx]
  | y :: l, h => by rw [List.cons_append, firstOf, if_neg (by rw [h y (by simp)]; decide)]; exact firstOf_at n x hx r l fun z hz => h z (by simp [hz])
/-- What draw.Number returns. -/
def numberOf (d : List UInt8) (no n : Int) : Int × Int := if no < 0 ∨ 1099511627776 < no ∨ n < 1 ∨ 4096 < n then (0, 1) else (firstOf n (wordsOf d no.toNat 64), 0)
def numV (r : Int × Int) : Value := .tuple #[.int .i64 r.1, .int .i64 r.2]

theorem Blk.new' (w : World) {g : Nat} (t : TypeId) (cs : Array Value) (h : g = w.heap.size) : Blk (w.alloc (.cells cs t)) g t cs := by subst h; exact Blk.new w t cs
theorem two_set (W : World) (b0 b1 : Nat) (h : b0 ≠ b1) {u0 u1 : Value} (h0 : W.cell? ⟨b0, 0, none⟩ = some u0) (h1 : W.cell? ⟨b1, 0, none⟩ = some u1) (v0 v1 : Value) :
    ((W.setCell ⟨b0, 0, none⟩ v0).setCell ⟨b1, 0, none⟩ v1).cell? ⟨b0, 0, none⟩ = some v0 ∧ ((W.setCell ⟨b0, 0, none⟩ v0).setCell ⟨b1, 0, none⟩ v1).cell? ⟨b1, 0, none⟩ = some v1 := by
  have k1 : (W.setCell ⟨b0, 0, none⟩ v0).cell? ⟨b1, 0, none⟩ = some u1 := (World.cell?_setCell_other _ _ _ _ (fun e => h (Addr.mk.inj e).1)).trans h1
  exact ⟨(World.cell?_setCell_other _ _ _ _ (fun e => h (Addr.mk.inj e).1.symm)).trans (World.cell?_setCell_same' _ _ _ (by rw [h0]; rfl)), World.cell?_setCell_same' _ _ _ (by rw [k1]; rfl)⟩
set_option maxRecDepth 100000 in
set_option maxHeartbeats 4000000 in
theorem number_good (d : List UInt8) (hd : d.length = 32) (no n : Nat) (hno : no ≤ 1099511627776) (hn0 : 1 ≤ n) (hn1 : n ≤ 4096) (w : World) (hL : Laid w) :
    Calls Tryd.prog 29 #[.agg (dig d), .int .i64 no, .int .i64 n] w (Ret (numV (firstOf n (wordsOf d no 64), 0)) w) := by
  refine (callsIn_wide (n := 5)).1 ?_
  refine callsIn_of_wp_marks Tryd.func29 rfl trivial ?_ rfl
  simp only [Tryd.ntmps29, List.size_toArray, List.length_cons, List.length_nil, Nat.reduceAdd, Nat.reduceSub, Array.replicate_succ, Array.replicate_zero, List.push_toArray, List.append_toArray, List.nil_append, List.cons_append]
  refine wpIn_wide.2 ?_
  have hX0 : Blk ((((w.alloc (.cells (dig d) 23)).alloc (.cells #[.int .i64 n] 3)).alloc (.cells #[.int .i64 0] 3)).alloc (.cells #[.int .i64 0] 25)) w.heap.size 23 (dig d) := (((Blk.new w _ _).alloc _).alloc _).alloc _
  have HX0 := Lib.hid hX0
  have HL := Lib.hid hL
  clear hX0 hL
  go_wp2_with (refine load_dig rfl _ rfl d hd HX0.out rfl ?_)
  refine (all_any d no _).mono ?_
  rintro e W0 ⟨rfl, hW0⟩
  have hY : ∃ hs, hs = w.heap.size := ⟨_, rfl⟩
  have c1 : Blk W0 (w.heap.size + 1) 3 #[.int .i64 n] := by rw [hW0]; exact (((((Blk.new' _ _ _ (by simp)).alloc _).alloc _).alloc _).alloc _)
  have c2 : Blk W0 (w.heap.size + 1 + 1) 3 #[.int .i64 0] := by rw [hW0]; exact ((((Blk.new' _ _ _ (by simp)).alloc _).alloc _).alloc _)
  have c3 : Blk W0 (w.heap.size + 1 + 1 + 1) 25 #[.int .i64 0] := by rw [hW0]; exact (((Blk.new' _ _ _ (by simp)).alloc _).alloc _)
  have c4 : Blk W0 (w.heap.size + 4) 23 (dig d) := by rw [hW0]; exact ((Blk.new' _ _ _ (by simp)).alloc _)
  have c5 : Blk W0 (w.heap.size + 5) 3 #[.int .i64 no] := by rw [hW0]; exact (Blk.new' _ _ _ (by simp))
  have hsz : W0.heap.size = w.heap.size + 6 := by rw [hW0]; simp
  have hB0 : Below w.heap.size w W0 := by
    rw [hW0]
    exact ((((((Below.refl _ w).alloc (Nat.le_refl _) _).alloc (by simp) _).alloc (by simp; omega) _).alloc (by simp; omega) _).alloc (by simp; omega) _).alloc (by simp; omega) _
  simp only [World.size_alloc] at ⊢
  clear hW0 hY HX0
  go_wp2_with fail
  have k2 : W0.cell? ⟨w.heap.size + 1 + 1, 0, none⟩ = some (.int .i64 0) := c2.cell 0
  have k3 : W0.cell? ⟨w.heap.size + 1 + 1 + 1, 0, none⟩ = some (.int .i64 0) := c3.cell 0
  have f2 := c2.frozen 0
  have f3 := c3.frozen 0
  have hL1 := HL.out.below hB0
  refine (wpIn_wide (n := 5)).1 ?_
  refine wpIn_rangeFunc_ownF rfl (by omega) (gf := 108) (lb := #[.pointer (some ⟨w.heap.size + 4, 0, none⟩), .pointer (some ⟨w.heap.size + 5, 0, none⟩)]) rfl trivial (enters_of Tryd.func108 (by kernel_rfl) rfl)
    (all_stops 4 (w.heap.size + 4) (w.heap.size + 5) W0.heap.size d hd no (by omega) (by omega) (by omega) _ _ W0 (Nat.le_refl _) hL1 hL1.lt0 hL1.lt1 c4 c5) belowK_t (belowK_b (Nat.le_refl _)) (Below.refl _ _) (fun _ => rfl)
    (fun pre W => ((∀ y ∈ pre, (takeOf (y.1 : Int) n).2.1 = false) ∧ W.cell? ⟨w.heap.size + 1, 0, none⟩ = some (.int .i64 n) ∧ W.cell? ⟨w.heap.size + 1 + 1, 0, none⟩ = some (.int .i64 0) ∧ W.frozen? ⟨w.heap.size + 1 + 1, 0, none⟩ = false ∧ W.cell? ⟨w.heap.size + 1 + 1 + 1, 0, none⟩ = some (.int .i64 0) ∧ W.frozen? ⟨w.heap.size + 1 + 1 + 1, 0, none⟩ = false) ∧ Below w.heap.size w W)
    (fun c pre W => (c = .ret ∧ (∃ (x : W32) (q : List W32), pre = q ++ [x] ∧ (∀ y ∈ q, (takeOf (y.1 : Int) n).2.1 = false) ∧ (takeOf (x.1 : Int) n).2.1 = true ∧ W.cell? ⟨w.heap.size + 1 + 1, 0, none⟩ = some (.int .i64 (takeOf (x.1 : Int) n).1)) ∧ W.cell? ⟨w.heap.size + 1 + 1 + 1, 0, none⟩ = some (.int .i64 0)) ∧ Below w.heap.size w W)
    (OwnFrom.and (Own.from (fun s A B row hs hg hr => ⟨hs.1, cell_kept hs.2.1 hg hr, cell_kept hs.2.2.1 hg hr, (frozen_kept hs.2.2.1 hg hr).trans hs.2.2.2.1, cell_kept hs.2.2.2.2.1 hg hr, (frozen_kept hs.2.2.2.2.1 hg hr).trans hs.2.2.2.2.2⟩) _) (ownFrom_below (Nat.le_refl _) (by omega)))
    (fun c => OwnFrom.and (Own.from (fun s A B row hs hg hr => by
      obtain ⟨h1, ⟨x, q, h2, h3, h4, h5⟩, h6⟩ := hs
      exact ⟨h1, ⟨x, q, h2, h3, h4, cell_kept h5 hg hr⟩, cell_kept h6 hg hr⟩) _) (ownFrom_below (Nat.le_refl _) (by omega)))
    ⟨⟨by simp, c1.cell 0, k2, f2, k3, f3⟩, hB0⟩
    ?a1 ?assign ?body ?done ?stop
  case assign =>
    intro l x W K hK
    gi_wp2
    exact hK
  case body =>
    rintro l pre x W ⟨⟨hp, h1, h2, h3, h4, h5⟩, hB⟩ _
    have hx := x.2
    obtain ⟨⟨v, ok, er⟩, hr⟩ : ∃ r, r = takeOf (x.1 : Int) n := ⟨_, rfl⟩
    have HR := Lib.hid hr
    have HT := fun W' => take_any (x.1 : Int) n (by omega) (by omega) (by omega) (by omega) W'
    rw [← hr] at HT
    have HT' := Lib.hid HT
    have HP := Lib.hid hp
    clear HT hr hp
    gi_wp2_with fail
    refine ⟨trivial, (CallsIn.inRound l (callsIn_wide.2 (HT'.out W))).mono ?_⟩
    rintro e W1 ⟨rfl, rfl⟩
    simp only [takeV]
    cases ok
    · gi_wp2
      exact ⟨KeepsOthers.refl _, Below.refl _ _, ⟨fun y hy => (List.mem_append.1 hy).elim (HP.out y) (fun e => by
        obtain rfl : y = x := by simpa using e
        rw [← HR.out]), h1, h2, h3, h4, h5⟩, hB⟩
    · gi_wp2
      have hc := two_set W _ _ (by omega) h2 h4 (.int .i64 v) (.int .i64 0)
      exact ⟨(KeepsOthers.setCell _ _ _).trans (KeepsOthers.setCell _ _ _), ⟨rfl, ⟨x, pre, rfl, HP.out, by rw [← HR.out], by rw [← HR.out]; exact hc.1⟩, hc.2⟩, (hB.setCell (p := ⟨w.heap.size + 1 + 1, 0, none⟩) (by show _ ≤ w.heap.size + 1 + 1; omega) _).setCell (p := ⟨w.heap.size + 1 + 1 + 1, 0, none⟩) (by show _ ≤ w.heap.size + 1 + 1 + 1; omega) _⟩
  case done =>
    rintro D ys W hD rfl ⟨⟨hne, _, h2, h3, h4, h5⟩, hB⟩ hK
    have hc := two_set W _ _ (by omega) h2 h4 (.int .i64 0) (.int .i64 0)
    go_wp2
    have hK' := ((KeepsOthers.setCell W ⟨w.heap.size + 1 + 1, 0, none⟩ (.int .i64 0)).trans (KeepsOthers.setCell _ ⟨w.heap.size + 1 + 1 + 1, 0, none⟩ (.int .i64 0))).same D _ hK rfl
    refine ⟨by simp, .inl ⟨_, _, rfl, run_takeDeferred hK', ?_⟩⟩
    have hc5 := cell_kept hc.1 (grownBy_putObj' _ D (.deferred none)) (fun r e => by cases e; exact ⟨_, hK', rfl⟩)
    have hc6 := cell_kept hc.2 (grownBy_putObj' _ D (.deferred none)) (fun r e => by cases e; exact ⟨_, hK', rfl⟩)
    refine ⟨numV (firstOf n (wordsOf d no 64), 0), ?_, rfl, ((hB.setCell (p := ⟨w.heap.size + 1 + 1, 0, none⟩) (by show _ ≤ w.heap.size + 1 + 1; omega) _).setCell (p := ⟨w.heap.size + 1 + 1 + 1, 0, none⟩) (by show _ ≤ w.heap.size + 1 + 1 + 1; omega) _).trans (belowK_b (w := w) (Nat.le_refl _) _ D _ _ (by omega) hK' rfl rfl)⟩
    rw [firstOf_none n _ hne]
    simp [results, Tryd.f29, go_sem, hc5, hc6, numV]
  case stop =>
    rintro D c pre W hD hpre ⟨⟨rfl, ⟨x, q, rfl, hq, hx, h2⟩, h4⟩, hB⟩ hK
    gi_wp2
    refine ⟨by simp, .inl ⟨_, _, rfl, run_takeDeferred hK, ?_⟩⟩
    have hc5 := cell_kept h2 (grownBy_putObj' _ D (.deferred none)) (fun r e => by cases e; exact ⟨_, hK, rfl⟩)
    have hc6 := cell_kept h4 (grownBy_putObj' _ D (.deferred none)) (fun r e => by cases e; exact ⟨_, hK, rfl⟩)
    obtain ⟨r, hr⟩ := hpre
    refine ⟨numV (firstOf n (wordsOf d no 64), 0), ?_, rfl, hB.trans (belowK_b (w := w) (Nat.le_refl _) W D _ _ (by omega) hK rfl rfl)⟩
    rw [← hr, List.append_assoc, List.singleton_append, firstOf_at n x hx r q hq]
    simp [results, Tryd.f29, go_sem, hc5, hc6, numV]

set_option maxRecDepth 100000 in
set_option maxHeartbeats 1000000 in
theorem number_bad (d : List UInt8) (no n : Int) (h : no < 0 ∨ 1099511627776 < no ∨ n < 1 ∨ 4096 < n) (w : World) :
    Calls Tryd.prog 29 #[.agg (dig d), .int .i64 no, .int .i64 n] w (Ret (numV (0, 1)) w) := by
  by_cases c1 : no < 0
  · clear h
    go_enter Tryd.func29, Tryd.ntmps29
    go_wp2
    refine bodyPost_ret (v := numV (0, 1)) ?_ rfl ⟨rfl, ((((Below.refl _ w).alloc (Nat.le_refl _) _).alloc (by simp) _).alloc (by simp; omega) _).alloc (by simp; omega) _⟩
    simp [results, Tryd.f29, go_sem, numV]
  by_cases c2 : 1099511627776 < no
  · clear h
    go_enter Tryd.func29, Tryd.ntmps29
    go_wp2
    refine bodyPost_ret (v := numV (0, 1)) ?_ rfl ⟨rfl, ((((Below.refl _ w).alloc (Nat.le_refl _) _).alloc (by simp) _).alloc (by simp; omega) _).alloc (by simp; omega) _⟩
    simp [results, Tryd.f29, go_sem, numV]
  by_cases c3 : n < 1
  · clear h
    go_enter Tryd.func29, Tryd.ntmps29
    go_wp2
    refine bodyPost_ret (v := numV (0, 1)) ?_ rfl ⟨rfl, ((((Below.refl _ w).alloc (Nat.le_refl _) _).alloc (by simp) _).alloc (by simp; omega) _).alloc (by simp; omega) _⟩
    simp [results, Tryd.f29, go_sem, numV]
  · have c4 : 4096 < n := by omega
    clear h
    go_enter Tryd.func29, Tryd.ntmps29
    go_wp2
    refine bodyPost_ret (v := numV (0, 1)) ?_ rfl ⟨rfl, ((((Below.refl _ w).alloc (Nat.le_refl _) _).alloc (by simp) _).alloc (by simp; omega) _).alloc (by simp; omega) _⟩
    simp [results, Tryd.f29, go_sem, numV]

theorem number_any (d : List UInt8) (hd : d.length = 32) (no n : Int) (w : World) (hL : Laid w) :
    Calls Tryd.prog 29 #[.agg (dig d), .int .i64 no, .int .i64 n] w (Ret (numV (numberOf d no n)) w) := by
  by_cases h : no < 0 ∨ 1099511627776 < no ∨ n < 1 ∨ 4096 < n
  · rw [numberOf, if_pos h]
    exact number_bad d no n h w
  · rw [numberOf, if_neg h]
    obtain ⟨a, rfl⟩ : ∃ a : Nat, no = a := ⟨no.toNat, by omega⟩
    obtain ⟨b, rfl⟩ : ∃ b : Nat, n = b := ⟨n.toNat, by omega⟩
    exact number_good d hd a b (by omega) (by omega) (by omega) w hL
end Go.Proofs.YtibnikokgbfcdaaDoor

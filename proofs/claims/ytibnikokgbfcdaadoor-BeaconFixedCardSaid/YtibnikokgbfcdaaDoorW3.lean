/- Walk: absorb. -/
import Derived.Test.YtibnikokgbfcdaaDoorProg
import Derived.Test.YtibnikokgbfcdaaDoorBase
import Derived.WalkKit
import Derived.WalkSpells
import Derived.WalkLawsBesides
import Derived.Deep.QuietTactic
import Derived.BigQuiet
import Derived.StillTailTactics
import Derived.Lib.Hide
namespace Go.Proofs.YtibnikokgbfcdaaDoor
open Go.RowKit

theorem Tryd.size74 : (Tryd.prog.info? 74).map (·.size) = some 1 := by kernel_rfl
def SchedCells (w : World) (g : Nat) (f : Nat → Int) (k : Nat) : Prop := ∃ cs, Blk w g 156 cs ∧ cs.size = 64 ∧ ∀ i, i < k → cs[i]? = some (.int .u32 (sched f i))
def AbsPost (g : Nat) (t : TypeId) (s : St) (w : World) (e : Ending) (w' : World) : Prop := e = .returned (.tuple #[]) ∧ Blk w' g t s.cells ∧ Only w w' g

theorem still_of {P : Program} {f : FuncId} {args : Array Value} {w : World} {v : Value} (h : Calls P f args w fun e w' => e = .returned v ∧ w = w') :
    Calls P f args w fun e w'' => e = .returned v ∧ w'' = w := h.mono fun _ _ ⟨he, hw⟩ => ⟨he, hw.symm⟩
/-- A callee that leaves the world alone, met in a quiet region behind a quiet region. -/
theorem quiet_more {P : Program} {f : FuncId} {args : Array Value} {w : World} {a n : Nat} {v : Value} (h : Calls P f args (w.drewN (a + n)) fun e w' => e = .returned v ∧ w.drewN (a + n) = w') :
    Calls P f args (w.drewN (a + n)) fun e w'' => e = .returned v ∧ ∃ m, w'' = w.drewN (a + m) := h.mono fun _ _ ⟨he, hw⟩ => ⟨he, n, hw.symm⟩
/-- 'copy(v[1:], v[:7])' on the eight words. -/
theorem copy_shift {P : Program} (w : World) (g : Nat) (t ty : TypeId) (X : St) (hu : P.underlying 160 = some (.slice 74)) (hs : (P.info? 74).map (·.size) = some 1) (hg : Blk w g t X.cells) :
    (Builtin.copy_ #[160, 160] ty #[.slice (some ⟨g, 1, none⟩) 7 7, .slice (some ⟨g, 0, none⟩) 7 8]).run P w =
      .ok (goInt 7) (w.setRow g #[.int .u32 X.a, .int .u32 X.a, .int .u32 X.b, .int .u32 X.c, .int .u32 X.d, .int .u32 X.e, .int .u32 X.f, .int .u32 X.g]) := by
  have h := run_copy_row P w 160 160 ty 74 g 1 7 7 ⟨g, 0, none⟩ 7 8 X.cells t [.int .u32 X.a, .int .u32 X.b, .int .u32 X.c, .int .u32 X.d, .int .u32 X.e, .int .u32 X.f, .int .u32 X.g] hu hs hg rfl
    (fun j v hv => by
      have hj : j < 7 := (List.getElem?_eq_some_iff.1 hv).1
      rw [Addr.add_mid, Nat.zero_add, hg.cell j]
      rcases j with _ | _ | _ | _ | _ | _ | _ | j <;> first | exact hv | omega)
    (by simp [St.cells]) (by simp [Value.oneCell'])
  exact h
theorem step_cells {w : World} {g : Nat} {t : TypeId} {X : St} {k : Nat} {f : Nat → Int} (h : Blk w g t #[.int .u32 X.a, .int .u32 X.a, .int .u32 X.b, .int .u32 X.c, .int .u32 X.d, .int .u32 X.e, .int .u32 X.f, .int .u32 X.g]) :
    Blk ((w.setCell ⟨g, 4, none⟩ (.int .u32 ((X.d + X.p0 (kAt k) (sched f k)) % 4294967296))).setCell ⟨g, 0, none⟩ (.int .u32 ((X.p0 (kAt k) (sched f k) + X.q0) % 4294967296))) g t (X.step (kAt k) (sched f k)).cells := by
  exact (h.set 4 _).set 0 _
theorem sched_put {cs : Array Value} {f : Nat → Int} {k : Nat} (hcs : cs.size = 64) (hci : ∀ i, i < k → cs[i]? = some (.int .u32 (sched f i))) (hk : k < 16) :
    ∀ i, i < k + 1 → (cs.setIfInBounds k (.int .u32 (wordTo (fun j => f (4 * k + j)) 4)))[i]? = some (.int .u32 (sched f i)) := by
  intro i hi
  rw [Array.getElem?_setIfInBounds]
  by_cases h : k = i
  · subst h
    rw [if_pos rfl, if_pos (by omega), sched, if_pos hk]
  · rw [if_neg h]
    exact hci i (by omega)

theorem sched_next {cs : Array Value} {f : Nat → Int} {k : Nat} (hcs : cs.size = 64) (hci : ∀ i, i < k → cs[i]? = some (.int .u32 (sched f i))) (hk : 16 ≤ k) (hk64 : k < 64) :
    ∀ i, i < k + 1 → (cs.setIfInBounds k (.int .u32 ((sched f (k - 16) + sg0 (sched f (k - 15)) + sched f (k - 7) + sg1 (sched f (k - 2))) % 4294967296)))[i]? = some (.int .u32 (sched f i)) := by
  intro i hi
  rw [Array.getElem?_setIfInBounds]
  by_cases h : k = i
  · subst h
    rw [if_pos rfl, if_pos (by omega)]
    conv => rhs; rw [sched, if_neg (by omega)]
  · rw [if_neg h]
    exact hci i (by omega)

set_option maxRecDepth 100000 in
set_option maxHeartbeats 1000000 in
theorem absorb_any (gs b off len cap : Nat) (s : St) (f : Nat → Int) (w : World) (hs : Blk w gs 140 s.cells) (hlen : 64 ≤ len) (hcap : len ≤ cap) (hmax : cap ≤ 9223372036854775807)
    (hr : ∀ k, k < 64 → w.cell? ⟨b, off + k, none⟩ = some (.int .u8 (f k))) (hk : ∀ t, t < 64 → w.cell? ⟨1, t, none⟩ = some (.int .u32 (kAt t))) :
    Calls Tryd.prog 117 #[.pointer (some ⟨gs, 0, none⟩), .slice (some ⟨b, off, none⟩) len cap] w (AbsPost gs 140 (s.block f) w) := by
  go_enter Tryd.func117, Tryd.ntmps117
  have hgs := hs.lt
  have h1l : 1 < w.heap.size := World.block_lt_of_cell? w _ (hk 0 (by omega))
  have hbl : b < w.heap.size := World.block_lt_of_cell? w _ (hr 0 (by omega))
  go_wp2_with fail
  go_loopw [14] (fun i wr => ∃ k : Nat, k ≤ 16 ∧ i = .int .i64 k ∧ SchedCells wr w.heap.size f k ∧ Below w.heap.size w wr) (fun i _ => 16 - (intOf i).toNat)
  case atStart => exact ⟨0, Nat.zero_le _, rfl, ⟨_, Blk.new _ _ _, rfl, fun i h => absurd h (by omega)⟩, (Below.refl _ w).alloc (Nat.le_refl _) _⟩
  case round =>
    obtain ⟨k, hk16, rfl, hsc, ho⟩ := hrel
    by_cases hlt : k < 16
    · obtain ⟨cs, hcb, hcs, hci⟩ := hsc
      obtain ⟨v, hcell⟩ := hcb.some_ (i := k) (by omega)
      have hfz := hcb.frozen k
      go_wp2_with fail
      refine (word_any b (off + 4 * k) _ _ (fun j => f (4 * k + j)) _ (by omega) (fun j hj => ?_)).mono ?_
      · rw [Nat.add_assoc]
        exact (ho.cell (p := ⟨b, _, none⟩) hbl).trans (hr (4 * k + j) (by omega))
      rintro e w' ⟨rfl, rfl⟩
      go_wp2_with fail
      go_roundw
      case rel => exact ⟨k + 1, by omega, by go_num, ⟨_, hcb.set _ _, by simpa using hcs, sched_put hcs hci hlt⟩, ho.setCell (p := ⟨w.heap.size, k, none⟩) (Nat.le_refl _) _⟩
      case measure => simp [intOf]; omega
    · obtain rfl : k = 16 := by omega
      go_wp2_with fail
      rw [show ((16 : Nat) : Int) = 16 from rfl]
      go_loopw [6] (fun i wr2 => ∃ k : Nat, 16 ≤ k ∧ k ≤ 64 ∧ i = .int .i64 k ∧ SchedCells wr2 w.heap.size f k ∧ Below w.heap.size w wr2) (fun i _ => 64 - (intOf i).toNat)
      case atStart => exact ⟨16, by omega, by omega, rfl, hsc, ho⟩
      case round =>
        clear hsc ho
        obtain ⟨k, hk0, hk64, rfl, hsc, ho⟩ := hrel
        by_cases hlt : k < 64
        · obtain ⟨cs, hcb, hcs, hci⟩ := hsc
          obtain ⟨v, hcell⟩ := hcb.some_ (i := k) (by omega)
          have hfz := hcb.frozen k
          have c15 := (hcb.cell (k - 15)).trans (hci (k - 15) (by omega))
          have c2 := (hcb.cell (k - 2)).trans (hci (k - 2) (by omega))
          have c16 := (hcb.cell (k - 16)).trans (hci (k - 16) (by omega))
          have c7 := (hcb.cell (k - 7)).trans (hci (k - 7) (by omega))
          have e15 : IntKind.i64.wrap ((k : Int) - 15) = (k : Int) - 15 := IntWalk.i64_in _ (by omega)
          have e2 : IntKind.i64.wrap ((k : Int) - 2) = (k : Int) - 2 := IntWalk.i64_in _ (by omega)
          have n15 : ((k : Int) - 15).toNat = k - 15 := by omega
          have n2 : ((k : Int) - 2).toNat = k - 2 := by omega
          have z15 : 0 ≤ (k : Int) - 15 := by omega
          have z2 : 0 ≤ (k : Int) - 2 := by omega
          have l15 : (k : Int) - 15 < 64 := by omega
          have l2 : (k : Int) - 2 < 64 := by omega
          go_wp2_with fail
          go_quiet (fail)
          go_wp2_with fail
          have e16 : IntKind.i64.wrap ((k : Int) - 16) = (k : Int) - 16 := IntWalk.i64_in _ (by omega)
          have e7 : IntKind.i64.wrap ((k : Int) - 7) = (k : Int) - 7 := IntWalk.i64_in _ (by omega)
          have n16 : ((k : Int) - 16).toNat = k - 16 := by omega
          have n7 : ((k : Int) - 7).toNat = k - 7 := by omega
          have z16 : 16 ≤ (k : Int) := by omega
          have z7 : 7 ≤ (k : Int) := by omega
          have zk : (k : Int) < 64 := by omega
          have l16 : (k : Int) - 16 < 64 := by omega
          have l7 : (k : Int) - 7 < 64 := by omega
          clear e15 e2 n15 n2 z15 z2 l15 l2 c15 c2
          refine wp_region_still_tail 29 (by kernel_rfl) (by kernel_rfl) ?_
          simp only [List.take_succ_cons, List.take_zero, List.drop_succ_cons, List.drop_zero]
          show wpStill _ _ (World.drew _) _ _ _
          repeat still_step
          still_call (still_of (rotl_any _ (-7) 25 _ (by decide) (by decide)))
          repeat still_step
          still_call (still_of (rotl_any _ (-18) 14 _ (by decide) (by decide)))
          repeat still_step
          still_call (still_of (rotl_any _ (-17) 15 _ (by decide) (by decide)))
          repeat still_step
          still_call (still_of (rotl_any _ (-19) 13 _ (by decide) (by decide)))
          repeat still_step
          refine wpStill_nil ?_
          show wpList _ _ _ _ _ (World.drew _)
          go_wp2_with fail
          go_roundw
          case rel => exact ⟨k + 1, by omega, by omega, by go_num, ⟨_, (hcb.drewN _).set _ _, by simpa using hcs, sched_next hcs hci hk0 hlt⟩, (below_drewN ho _).setCell (p := ⟨w.heap.size, k, none⟩) (Nat.le_refl _) _⟩
          case measure => simp [intOf]; omega
        · obtain rfl : k = 64 := by omega
          have hs' := hs.below ho hgs
          have c0 : wr.cell? ⟨gs, 0, none⟩ = some (.int .u32 s.a) := hs'.cell 0
          have c1 : wr.cell? ⟨gs, 1, none⟩ = some (.int .u32 s.b) := hs'.cell 1
          have c2 : wr.cell? ⟨gs, 2, none⟩ = some (.int .u32 s.c) := hs'.cell 2
          have c3 : wr.cell? ⟨gs, 3, none⟩ = some (.int .u32 s.d) := hs'.cell 3
          have c4 : wr.cell? ⟨gs, 4, none⟩ = some (.int .u32 s.e) := hs'.cell 4
          have c5 : wr.cell? ⟨gs, 5, none⟩ = some (.int .u32 s.f) := hs'.cell 5
          have c6 : wr.cell? ⟨gs, 6, none⟩ = some (.int .u32 s.g) := hs'.cell 6
          have c7 : wr.cell? ⟨gs, 7, none⟩ = some (.int .u32 s.h) := hs'.cell 7
          go_wp2_with fail
          clear c0 c1 c2 c3 c4 c5 c6 c7
          rw [show ((64 : Nat) : Int) = 64 from rfl]
          obtain ⟨wo, rfl⟩ : ∃ wo : World, wo = wr := ⟨_, rfl⟩
          go_loopw [69] (fun i wr3 => ∃ k : Nat, k ≤ 64 ∧ i = .int .i64 k ∧ Blk wr3 wo.heap.size 140 (rounds s f k).cells ∧ SchedCells wr3 w.heap.size f 64 ∧ Below w.heap.size w wr3) (fun i _ => 64 - (intOf i).toNat)
          case atStart =>
            obtain ⟨cs, hcb, hcs, hci⟩ := hsc
            exact ⟨0, by omega, rfl, Blk.new _ _ _, ⟨cs, hcb.alloc _, hcs, hci⟩, ho.alloc ho.size _⟩
          case round =>
            have hgv0 : w.heap.size < wo.heap.size := by obtain ⟨cs, hcb, _⟩ := hsc; exact hcb.lt
            clear hsc ho hs'
            obtain ⟨k, hk64, rfl, hvb, hsc, ho⟩ := hrel
            by_cases hlt : k < 64
            · obtain ⟨X, hX⟩ : ∃ X, X = rounds s f k := ⟨_, rfl⟩
              rw [← hX] at hvb
              have HX := Lib.hid hX
              clear hX
              have c0 : wr.cell? ⟨wo.heap.size, 0, none⟩ = some (.int .u32 X.a) := hvb.cell 0
              have c1 : wr.cell? ⟨wo.heap.size, 1, none⟩ = some (.int .u32 X.b) := hvb.cell 1
              have c2 : wr.cell? ⟨wo.heap.size, 2, none⟩ = some (.int .u32 X.c) := hvb.cell 2
              have c3 : wr.cell? ⟨wo.heap.size, 3, none⟩ = some (.int .u32 X.d) := hvb.cell 3
              have c4 : wr.cell? ⟨wo.heap.size, 4, none⟩ = some (.int .u32 X.e) := hvb.cell 4
              have c5 : wr.cell? ⟨wo.heap.size, 5, none⟩ = some (.int .u32 X.f) := hvb.cell 5
              have c6 : wr.cell? ⟨wo.heap.size, 6, none⟩ = some (.int .u32 X.g) := hvb.cell 6
              have c7 : wr.cell? ⟨wo.heap.size, 7, none⟩ = some (.int .u32 X.h) := hvb.cell 7
              have ck : wr.cell? ⟨1, k, none⟩ = some (.int .u32 (kAt k)) := (ho.cell (p := ⟨1, k, none⟩) h1l).trans (hk k hlt)
              have cw : wr.cell? ⟨w.heap.size, k, none⟩ = some (.int .u32 (sched f k)) := by obtain ⟨cs, hcb, hcs, hci⟩ := hsc; exact (hcb.cell k).trans (hci k hlt)
              have z0 : 0 ≤ (k : Int) := by omega
              have zk : (k : Int) < 64 := by omega
              go_wp2_with fail
              go_quiet ((go_at_call 135; exact Calls.quiet_of_same (still_of (rotated_a _ _))))
              obtain ⟨n1, rfl⟩ : ∃ n1 : Nat, n1 = nq := ⟨_, rfl⟩
              go_wp2_with fail
              go_quiet ((go_at_call 135; exact quiet_more (rotated_b _ _)))
              have hvb2 : Blk ((wr.drewN n1).drewN nq) wo.heap.size 140 X.cells := hvb
              have hsc2 : SchedCells ((wr.drewN n1).drewN nq) w.heap.size f 64 := hsc
              have ho2 : Below w.heap.size w ((wr.drewN n1).drewN nq) := below_drewN (below_drewN ho _) _
              clear c0 c1 c2 c3 c4 c5 c6 c7 ck cw z0 zk hvb hsc ho
              generalize (wr.drewN n1).drewN nq = W2 at hvb2 hsc2 ho2 ⊢
              have hcopy := fun ty => copy_shift (P := Tryd.prog) W2.drew wo.heap.size 140 ty X Tryd.underlying160 Tryd.size74 hvb2
              go_wp2_with fail
              go_region
              have hvb3 : Blk (W2.drew.setRow wo.heap.size #[.int .u32 X.a, .int .u32 X.a, .int .u32 X.b, .int .u32 X.c, .int .u32 X.d, .int .u32 X.e, .int .u32 X.f, .int .u32 X.g]) wo.heap.size 140 _ := setRow_heap W2.drew wo.heap.size _ _ _ _ hvb2
              have ho3 : Below w.heap.size w (W2.drew.setRow wo.heap.size #[.int .u32 X.a, .int .u32 X.a, .int .u32 X.b, .int .u32 X.c, .int .u32 X.d, .int .u32 X.e, .int .u32 X.f, .int .u32 X.g]) := below_setRow ho2.drew (by omega) _
              have hsc3 : SchedCells (W2.drew.setRow wo.heap.size #[.int .u32 X.a, .int .u32 X.a, .int .u32 X.b, .int .u32 X.c, .int .u32 X.d, .int .u32 X.e, .int .u32 X.f, .int .u32 X.g]) w.heap.size f 64 := by
                obtain ⟨cs, hcb, hcs, hci⟩ := hsc2
                exact ⟨cs, hcb.setRow (by omega) _, hcs, hci⟩
              clear hcopy hvb2 ho2 hsc2
              generalize W2.drew.setRow wo.heap.size #[.int .u32 X.a, .int .u32 X.a, .int .u32 X.b, .int .u32 X.c, .int .u32 X.d, .int .u32 X.e, .int .u32 X.f, .int .u32 X.g] = W3 at hvb3 ho3 hsc3 ⊢
              have c4 : W3.cell? ⟨wo.heap.size, 4, none⟩ = some (.int .u32 X.d) := hvb3.cell 4
              have c0 : W3.cell? ⟨wo.heap.size, 0, none⟩ = some (.int .u32 X.a) := hvb3.cell 0
              have f4 := hvb3.frozen 4
              have f0 := hvb3.frozen 0
              go_wp2_with fail
              go_roundw
              case rel =>
                refine ⟨k + 1, by omega, by go_num, ?_, ?_, ?_⟩
                · rw [rounds, ← HX.out]
                  exact step_cells hvb3
                · obtain ⟨cs, hcb, hcs, hci⟩ := hsc3
                  exact ⟨cs, (hcb.far (p := ⟨wo.heap.size, 4, none⟩) (Nat.ne_of_lt hgv0) _).far (p := ⟨wo.heap.size, 0, none⟩) (Nat.ne_of_lt hgv0) _, hcs, hci⟩
                · exact (ho3.setCell (p := ⟨wo.heap.size, 4, none⟩) (Nat.le_of_lt hgv0) _).setCell (p := ⟨wo.heap.size, 0, none⟩) (Nat.le_of_lt hgv0) _
              case measure => simp [intOf]; omega
            · obtain rfl : k = 64 := by omega
              go_wp2_with fail
              rw [show ((64 : Nat) : Int) = 64 from rfl]
              obtain ⟨wp, rfl⟩ : ∃ wp : World, wp = wr := ⟨_, rfl⟩
              have hsp := hs.below ho hgs
              have hne : gs ≠ wo.heap.size := by omega
              go_loopw [129] (fun i wr4 => ∃ k : Nat, k ≤ 8 ∧ i = .int .i64 k ∧ Blk wr4 wo.heap.size 140 (rounds s f 64).cells ∧ Blk wr4 gs 140 (addCells s (rounds s f 64) k) ∧ Only w wr4 gs) (fun i _ => 8 - (intOf i).toNat)
              case atStart => exact ⟨0, by omega, rfl, hvb, hsp, Only.below ho⟩
              case round =>
                clear hvb hsc ho hsp
                obtain ⟨k, hk8, rfl, hvb, hsb, ho⟩ := hrel
                by_cases hlt : k < 8
                · obtain ⟨X, hX⟩ : ∃ X, X = rounds s f 64 := ⟨_, rfl⟩
                  rw [← hX] at hvb hsb
                  have HX := Lib.hid hX
                  clear hX
                  have cv : wr.cell? ⟨wo.heap.size, k, none⟩ = some (.int .u32 (X.nth k)) := (hvb.cell k).trans (cells_nth X k hlt)
                  have cs : wr.cell? ⟨gs, k, none⟩ = some (.int .u32 (s.nth k)) := (hsb.cell k).trans ((addCells_rest s X k k (Nat.le_refl _)).trans (cells_nth s k hlt))
                  have fs := hsb.frozen k
                  have z0 : 0 ≤ (k : Int) := by omega
                  have zk : (k : Int) < 8 := by omega
                  go_wp2_with fail
                  refine wp_region_still_tail 11 (by kernel_rfl) (by kernel_rfl) ?_
                  simp only [List.take_succ_cons, List.take_zero, List.drop_succ_cons, List.drop_zero]
                  show wpStill _ _ (World.drew _) _ _ _
                  repeat still_step
                  refine wpStill_nil ?_
                  show wpList _ _ _ _ _ (World.drew _)
                  go_wp2_with fail
                  go_roundw
                  case rel =>
                    refine ⟨k + 1, by omega, by go_num, ?_, ?_, ?_⟩
                    · rw [← HX.out]
                      exact hvb.drew.far (p := ⟨gs, k, none⟩) hne.symm _
                    · rw [← HX.out]
                      exact hsb.drew.set k _
                    · exact ho.drew.set (.inl rfl) _
                  case measure => simp [intOf]; omega
                · obtain rfl : k = 8 := by omega
                  go_wp2_with fail
                  go_end0
                  exact ⟨rfl, addCells_all s _ ▸ hsb, ho⟩
end Go.Proofs.YtibnikokgbfcdaaDoor

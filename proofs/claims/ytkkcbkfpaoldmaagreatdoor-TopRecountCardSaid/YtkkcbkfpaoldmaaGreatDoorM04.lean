/- Several texts in one: W3, W4. -/
import Derived.Test.YtkkcbkfpaoldmaaGreatDoorProg
import Derived.Test.YtkkcbkfpaoldmaaGreatDoorBase
import Derived.WalkKit
import Derived.WalkSpells
import Derived.WalkLawsBesides
import Derived.Deep.QuietTactic
import Derived.BigQuiet
import Derived.StillTailTactics
import Derived.Lib.Hide
/- Walk: absorb. -/
namespace Go.Proofs.YtkkcbkfpaoldmaaGreatDoor
open Go.RowKit

theorem Tryz.size174 : (Tryz.prog.info? 174).map (·.size) = some 1 := by kernel_rfl
def SchedCells (w : World) (g : Nat) (f : Nat → Int) (k : Nat) : Prop := ∃ cs, Blk w g 213 cs ∧ cs.size = 64 ∧ ∀ i, i < k → cs[i]? = some (.int .u32 (sched f i))
def AbsPost (g : Nat) (t : TypeId) (s : St) (w : World) (e : Ending) (w' : World) : Prop := e = .returned (.tuple #[]) ∧ Blk w' g t s.cells ∧ Only w w' g

theorem still_of {P : Program} {f : FuncId} {args : Array Value} {w : World} {v : Value} (h : Calls P f args w fun e w' => e = .returned v ∧ w = w') :
    Calls P f args w fun e w'' => e = .returned v ∧ w'' = w := h.mono fun _ _ ⟨he, hw⟩ => ⟨he, hw.symm⟩
/-- A callee that leaves the world alone, met in a quiet region behind a quiet region. -/
theorem quiet_more {P : Program} {f : FuncId} {args : Array Value} {w : World} {a n : Nat} {v : Value} (h : Calls P f args (w.drewN (a + n)) fun e w' => e = .returned v ∧ w.drewN (a + n) = w') :
    Calls P f args (w.drewN (a + n)) fun e w'' => e = .returned v ∧ ∃ m, w'' = w.drewN (a + m) := h.mono fun _ _ ⟨he, hw⟩ => ⟨he, n, hw.symm⟩
/-- 'copy(v[1:], v[:7])' on the eight words. -/
theorem copy_shift {P : Program} (w : World) (g : Nat) (t ty : TypeId) (X : St) (hu : P.underlying 217 = some (.slice 174)) (hs : (P.info? 174).map (·.size) = some 1) (hg : Blk w g t X.cells) :
    (Builtin.copy_ #[217, 217] ty #[.slice (some ⟨g, 1, none⟩) 7 7, .slice (some ⟨g, 0, none⟩) 7 8]).run P w =
      .ok (goInt 7) (w.setRow g #[.int .u32 X.a, .int .u32 X.a, .int .u32 X.b, .int .u32 X.c, .int .u32 X.d, .int .u32 X.e, .int .u32 X.f, .int .u32 X.g]) := by
  have h := run_copy_row P w 217 217 ty 174 g 1 7 7 ⟨g, 0, none⟩ 7 8 X.cells t [.int .u32 X.a, .int .u32 X.b, .int .u32 X.c, .int .u32 X.d, .int .u32 X.e, .int .u32 X.f, .int .u32 X.g] hu hs hg rfl
    (fun j v hv => by
      have hj : j < 7 := (List.getElem?_eq_some_iff.1 hv).1
      rw [Addr.add_mid, Nat.zero_add, hg.cell j]
      rcases j with _ | _ | _ | _ | _ | _ | _ | j <;> first | exact hv | omega)
    (by simp [St.cells]) (by simp [Value.oneCell'])
  exact h
theorem step_cells {w : World} {g : Nat} {t : TypeId} {X : St} {k : Nat} {f : Nat → Int} (h : Blk w g t #[.int .u32 X.a, .int .u32 X.a, .int .u32 X.b, .int .u32 X.c, .int .u32 X.d, .int .u32 X.e, .int .u32 X.f, .int .u32 X.g]) :
    Blk ((w.setCell ⟨g, 4, none⟩ (.int .u32 ((X.d + X.p0 (kAt k) (sched f k)) % 4294967296))).setCell ⟨g, 0, none⟩ (.int .u32 ((X.p0 (kAt k) (sched f k) + X.q0) % 4294967296))) g t (X.step (kAt k) (sched f k)).cells := by
  exact (h.set 4 _).set 0 _
theorem sched_put {cs : Array Value} {f : Nat → Int} {k : Nat} (hcs : cs.size = 64) (hci : ∀ i, i < k → cs[i]? = some (.int .u32 (sched f i))) (hk : k < 16) :
    ∀ i, i < k + 1 → (cs.setIfInBounds k (.int .u32 (wordTo (fun j => f (4 * k + j)) 4)))[i]? = some (.int .u32 (sched f i)) := by
  intro i hi
  rw [Array.getElem?_setIfInBounds]
  by_cases h : k = i
  · subst h
    rw [if_pos rfl, if_pos (by omega), sched, if_pos hk]
  · rw [if_neg h]
    exact hci i (by omega)

theorem sched_next {cs : Array Value} {f : Nat → Int} {k : Nat} (hcs : cs.size = 64) (hci : ∀ i, i < k → cs[i]? = some (.int .u32 (sched f i))) (hk : 16 ≤ k) (hk64 : k < 64) :
    ∀ i, i < k + 1 → (cs.setIfInBounds k (.int .u32 ((sched f (k - 16) + sg0 (sched f (k - 15)) + sched f (k - 7) + sg1 (sched f (k - 2))) % 4294967296)))[i]? = some (.int .u32 (sched f i)) := by
  intro i hi
  rw [Array.getElem?_setIfInBounds]
  by_cases h : k = i
  · subst h
    rw [if_pos rfl, if_pos (by omega)]
    conv => rhs; rw [sched, if_neg (by omega)]
  · rw [if_neg h]
    exact hci i (by omega)

set_option maxRecDepth 100000 in
set_option maxHeartbeats 1000000 in
theorem absorb_any (gs b off len cap : Nat) (s : St) (f : Nat → Int) (w : World) (hs : Blk w gs 201 s.cells) (hlen : 64 ≤ len) (hcap : len ≤ cap) (hmax : cap ≤ 9223372036854775807)
    (hr : ∀ k, k < 64 → w.cell? ⟨b, off + k, none⟩ = some (.int .u8 (f k))) (hk : ∀ t, t < 64 → w.cell? ⟨1, t, none⟩ = some (.int .u32 (kAt t))) :
    Calls Tryz.prog 143 #[.pointer (some ⟨gs, 0, none⟩), .slice (some ⟨b, off, none⟩) len cap] w (AbsPost gs 201 (s.block f) w) := by
  go_enter Tryz.func143, Tryz.ntmps143
  have hgs := hs.lt
  have h1l : 1 < w.heap.size := World.block_lt_of_cell? w _ (hk 0 (by omega))
  have hbl : b < w.heap.size := World.block_lt_of_cell? w _ (hr 0 (by omega))
  go_wp2_with fail
  go_loopw [14] (fun i wr => ∃ k : Nat, k ≤ 16 ∧ i = .int .i64 k ∧ SchedCells wr w.heap.size f k ∧ Below w.heap.size w wr) (fun i _ => 16 - (intOf i).toNat)
  case atStart => exact ⟨0, Nat.zero_le _, rfl, ⟨_, Blk.new _ _ _, rfl, fun i h => absurd h (by omega)⟩, (Below.refl _ w).alloc (Nat.le_refl _) _⟩
  case round =>
    obtain ⟨k, hk16, rfl, hsc, ho⟩ := hrel
    by_cases hlt : k < 16
    · obtain ⟨cs, hcb, hcs, hci⟩ := hsc
      obtain ⟨v, hcell⟩ := hcb.some_ (i := k) (by omega)
      have hfz := hcb.frozen k
      go_wp2_with fail
      refine (word_any b (off + 4 * k) _ _ (fun j => f (4 * k + j)) _ (by omega) (fun j hj => ?_)).mono ?_
      · rw [Nat.add_assoc]
        exact (ho.cell (p := ⟨b, _, none⟩) hbl).trans (hr (4 * k + j) (by omega))
      rintro e w' ⟨rfl, rfl⟩
      go_wp2_with fail
      go_roundw
      case rel => exact ⟨k + 1, by omega, by go_num, ⟨_, hcb.set _ _, by simpa using hcs, sched_put hcs hci hlt⟩, ho.setCell (p := ⟨w.heap.size, k, none⟩) (Nat.le_refl _) _⟩
      case measure => simp [intOf]; omega
    · obtain rfl : k = 16 := by omega
      go_wp2_with fail
      rw [show ((16 : Nat) : Int) = 16 from rfl]
      go_loopw [6] (fun i wr2 => ∃ k : Nat, 16 ≤ k ∧ k ≤ 64 ∧ i = .int .i64 k ∧ SchedCells wr2 w.heap.size f k ∧ Below w.heap.size w wr2) (fun i _ => 64 - (intOf i).toNat)
      case atStart => exact ⟨16, by omega, by omega, rfl, hsc, ho⟩
      case round =>
        clear hsc ho
        obtain ⟨k, hk0, hk64, rfl, hsc, ho⟩ := hrel
        by_cases hlt : k < 64
        · obtain ⟨cs, hcb, hcs, hci⟩ := hsc
          obtain ⟨v, hcell⟩ := hcb.some_ (i := k) (by omega)
          have hfz := hcb.frozen k
          have c15 := (hcb.cell (k - 15)).trans (hci (k - 15) (by omega))
          have c2 := (hcb.cell (k - 2)).trans (hci (k - 2) (by omega))
          have c16 := (hcb.cell (k - 16)).trans (hci (k - 16) (by omega))
          have c7 := (hcb.cell (k - 7)).trans (hci (k - 7) (by omega))
          have e15 : IntKind.i64.wrap ((k : Int) - 15) = (k : Int) - 15 := IntWalk.i64_in _ (by omega)
          have e2 : IntKind.i64.wrap ((k : Int) - 2) = (k : Int) - 2 := IntWalk.i64_in _ (by omega)
          have n15 : ((k : Int) - 15).toNat = k - 15 := by omega
          have n2 : ((k : Int) - 2).toNat = k - 2 := by omega
          have z15 : 0 ≤ (k : Int) - 15 := by omega
          have z2 : 0 ≤ (k : Int) - 2 := by omega
          have l15 : (k : Int) - 15 < 64 := by omega
          have l2 : (k : Int) - 2 < 64 := by omega
          go_wp2_with fail
          go_quiet (fail)
          go_wp2_with fail
          have e16 : IntKind.i64.wrap ((k : Int) - 16) = (k : Int) - 16 := IntWalk.i64_in _ (by omega)
          have e7 : IntKind.i64.wrap ((k : Int) - 7) = (k : Int) - 7 := IntWalk.i64_in _ (by omega)
          have n16 : ((k : Int) - 16).toNat = k - 16 := by omega
          have n7 : ((k : Int) - 7).toNat = k - 7 := by omega
          have z16 : 16 ≤ (k : Int) := by omega
          have z7 : 7 ≤ (k : Int) := by omega
          have zk : (k : Int) < 64 := by omega
          have l16 : (k : Int) - 16 < 64 := by omega
          have l7 : (k : Int) - 7 < 64 := by omega
          clear e15 e2 n15 n2 z15 z2 l15 l2 c15 c2
          refine wp_region_still_tail 29 (by kernel_rfl) (by kernel_rfl) ?_
          simp only [List.take_succ_cons, List.take_zero, List.drop_succ_cons, List.drop_zero]
          show wpStill _ _ (World.drew _) _ _ _
          repeat still_step
          still_call (still_of (rotl_any _ (-7) 25 _ (by decide) (by decide)))
          repeat still_step
          still_call (still_of (rotl_any _ (-18) 14 _ (by decide) (by decide)))
          repeat still_step
          still_call (still_of (rotl_any _ (-17) 15 _ (by decide) (by decide)))
          repeat still_step
          still_call (still_of (rotl_any _ (-19) 13 _ (by decide) (by decide)))
          repeat still_step
          refine wpStill_nil ?_
          show wpList _ _ _ _ _ (World.drew _)
          go_wp2_with fail
          go_roundw
          case rel => exact ⟨k + 1, by omega, by omega, by go_num, ⟨_, (hcb.drewN _).set _ _, by simpa using hcs, sched_next hcs hci hk0 hlt⟩, (below_drewN ho _).setCell (p := ⟨w.heap.size, k, none⟩) (Nat.le_refl _) _⟩
          case measure => simp [intOf]; omega
        · obtain rfl : k = 64 := by omega
          have hs' := hs.below ho hgs
          have c0 : wr.cell? ⟨gs, 0, none⟩ = some (.int .u32 s.a) := hs'.cell 0
          have c1 : wr.cell? ⟨gs, 1, none⟩ = some (.int .u32 s.b) := hs'.cell 1
          have c2 : wr.cell? ⟨gs, 2, none⟩ = some (.int .u32 s.c) := hs'.cell 2
          have c3 : wr.cell? ⟨gs, 3, none⟩ = some (.int .u32 s.d) := hs'.cell 3
          have c4 : wr.cell? ⟨gs, 4, none⟩ = some (.int .u32 s.e) := hs'.cell 4
          have c5 : wr.cell? ⟨gs, 5, none⟩ = some (.int .u32 s.f) := hs'.cell 5
          have c6 : wr.cell? ⟨gs, 6, none⟩ = some (.int .u32 s.g) := hs'.cell 6
          have c7 : wr.cell? ⟨gs, 7, none⟩ = some (.int .u32 s.h) := hs'.cell 7
          go_wp2_with fail
          clear c0 c1 c2 c3 c4 c5 c6 c7
          rw [show ((64 : Nat) : Int) = 64 from rfl]
          obtain ⟨wo, rfl⟩ : ∃ wo : World, wo = wr := ⟨_, rfl⟩
          go_loopw [69] (fun i wr3 => ∃ k : Nat, k ≤ 64 ∧ i = .int .i64 k ∧ Blk wr3 wo.heap.size 201 (rounds s f k).cells ∧ SchedCells wr3 w.heap.size f 64 ∧ Below w.heap.size w wr3) (fun i _ => 64 - (intOf i).toNat)
          case atStart =>
            obtain ⟨cs, hcb, hcs, hci⟩ := hsc
            exact ⟨0, by omega, rfl, Blk.new _ _ _, ⟨cs, hcb.alloc _, hcs, hci⟩, ho.alloc ho.size _⟩
          case round =>
            have hgv0 : w.heap.size < wo.heap.size := by obtain ⟨cs, hcb, _⟩ := hsc; exact hcb.lt
            clear hsc ho hs'
            obtain ⟨k, hk64, rfl, hvb, hsc, ho⟩ := hrel
            by_cases hlt : k < 64
            · obtain ⟨X, hX⟩ : ∃ X, X = rounds s f k := ⟨_, rfl⟩
              rw [← hX] at hvb
              have HX := Lib.hid hX
              clear hX
              have c0 : wr.cell? ⟨wo.heap.size, 0, none⟩ = some (.int .u32 X.a) := hvb.cell 0
              have c1 : wr.cell? ⟨wo.heap.size, 1, none⟩ = some (.int .u32 X.b) := hvb.cell 1
              have c2 : wr.cell? ⟨wo.heap.size, 2, none⟩ = some (.int .u32 X.c) := hvb.cell 2
              have c3 : wr.cell? ⟨wo.heap.size, 3, none⟩ = some (.int .u32 X.d) := hvb.cell 3
              have c4 : wr.cell? ⟨wo.heap.size, 4, none⟩ = some (.int .u32 X.e) := hvb.cell 4
              have c5 : wr.cell? ⟨wo.heap.size, 5, none⟩ = some (.int .u32 X.f) := hvb.cell 5
              have c6 : wr.cell? ⟨wo.heap.size, 6, none⟩ = some (.int .u32 X.g) := hvb.cell 6
              have c7 : wr.cell? ⟨wo.heap.size, 7, none⟩ = some (.int .u32 X.h) := hvb.cell 7
              have ck : wr.cell? ⟨1, k, none⟩ = some (.int .u32 (kAt k)) := (ho.cell (p := ⟨1, k, none⟩) h1l).trans (hk k hlt)
              have cw : wr.cell? ⟨w.heap.size, k, none⟩ = some (.int .u32 (sched f k)) := by obtain ⟨cs, hcb, hcs, hci⟩ := hsc; exact (hcb.cell k).trans (hci k hlt)
              have z0 : 0 ≤ (k : Int) := by omega
              have zk : (k : Int) < 64 := by omega
              go_wp2_with fail
              go_quiet ((go_at_call 150; exact Calls.quiet_of_same (still_of (rotated_a _ _))))
              obtain ⟨n1, rfl⟩ : ∃ n1 : Nat, n1 = nq := ⟨_, rfl⟩
              go_wp2_with fail
              go_quiet ((go_at_call 150; exact quiet_more (rotated_b _ _)))
              have hvb2 : Blk ((wr.drewN n1).drewN nq) wo.heap.size 201 X.cells := hvb
              have hsc2 : SchedCells ((wr.drewN n1).drewN nq) w.heap.size f 64 := hsc
              have ho2 : Below w.heap.size w ((wr.drewN n1).drewN nq) := below_drewN (below_drewN ho _) _
              clear c0 c1 c2 c3 c4 c5 c6 c7 ck cw z0 zk hvb hsc ho
              generalize (wr.drewN n1).drewN nq = W2 at hvb2 hsc2 ho2 ⊢
              have hcopy := fun ty => copy_shift (P := Tryz.prog) W2.drew wo.heap.size 201 ty X Tryz.underlying217 Tryz.size174 hvb2
              go_wp2_with fail
              go_region
              have hvb3 : Blk (W2.drew.setRow wo.heap.size #[.int .u32 X.a, .int .u32 X.a, .int .u32 X.b, .int .u32 X.c, .int .u32 X.d, .int .u32 X.e, .int .u32 X.f, .int .u32 X.g]) wo.heap.size 201 _ := setRow_heap W2.drew wo.heap.size _ _ _ _ hvb2
              have ho3 : Below w.heap.size w (W2.drew.setRow wo.heap.size #[.int .u32 X.a, .int .u32 X.a, .int .u32 X.b, .int .u32 X.c, .int .u32 X.d, .int .u32 X.e, .int .u32 X.f, .int .u32 X.g]) := below_setRow ho2.drew (by omega) _
              have hsc3 : SchedCells (W2.drew.setRow wo.heap.size #[.int .u32 X.a, .int .u32 X.a, .int .u32 X.b, .int .u32 X.c, .int .u32 X.d, .int .u32 X.e, .int .u32 X.f, .int .u32 X.g]) w.heap.size f 64 := by
                obtain ⟨cs, hcb, hcs, hci⟩ := hsc2
                exact ⟨cs, hcb.setRow (by omega) _, hcs, hci⟩
              clear hcopy hvb2 ho2 hsc2
              generalize W2.drew.setRow wo.heap.size #[.int .u32 X.a, .int .u32 X.a, .int .u32 X.b, .int .u32 X.c, .int .u32 X.d, .int .u32 X.e, .int .u32 X.f, .int .u32 X.g] = W3 at hvb3 ho3 hsc3 ⊢
              have c4 : W3.cell? ⟨wo.heap.size, 4, none⟩ = some (.int .u32 X.d) := hvb3.cell 4
              have c0 : W3.cell? ⟨wo.heap.size, 0, none⟩ = some (.int .u32 X.a) := hvb3.cell 0
              have f4 := hvb3.frozen 4
              have f0 := hvb3.frozen 0
              go_wp2_with fail
              go_roundw
              case rel =>
                refine ⟨k + 1, by omega, by go_num, ?_, ?_, ?_⟩
                · rw [rounds, ← HX.out]
                  exact step_cells hvb3
                · obtain ⟨cs, hcb, hcs, hci⟩ := hsc3
                  exact ⟨cs, (hcb.far (p := ⟨wo.heap.size, 4, none⟩) (Nat.ne_of_lt hgv0) _).far (p := ⟨wo.heap.size, 0, none⟩) (Nat.ne_of_lt hgv0) _, hcs, hci⟩
                · exact (ho3.setCell (p := ⟨wo.heap.size, 4, none⟩) (Nat.le_of_lt hgv0) _).setCell (p := ⟨wo.heap.size, 0, none⟩) (Nat.le_of_lt hgv0) _
              case measure => simp [intOf]; omega
            · obtain rfl : k = 64 := by omega
              go_wp2_with fail
              rw [show ((64 : Nat) : Int) = 64 from rfl]
              obtain ⟨wp, rfl⟩ : ∃ wp : World, wp = wr := ⟨_, rfl⟩
              have hsp := hs.below ho hgs
              have hne : gs ≠ wo.heap.size := by omega
              go_loopw [129] (fun i wr4 => ∃ k : Nat, k ≤ 8 ∧ i = .int .i64 k ∧ Blk wr4 wo.heap.size 201 (rounds s f 64).cells ∧ Blk wr4 gs 201 (addCells s (rounds s f 64) k) ∧ Only w wr4 gs) (fun i _ => 8 - (intOf i).toNat)
              case atStart => exact ⟨0, by omega, rfl, hvb, hsp, Only.below ho⟩
              case round =>
                clear hvb hsc ho hsp
                obtain ⟨k, hk8, rfl, hvb, hsb, ho⟩ := hrel
                by_cases hlt : k < 8
                · obtain ⟨X, hX⟩ : ∃ X, X = rounds s f 64 := ⟨_, rfl⟩
                  rw [← hX] at hvb hsb
                  have HX := Lib.hid hX
                  clear hX
                  have cv : wr.cell? ⟨wo.heap.size, k, none⟩ = some (.int .u32 (X.nth k)) := (hvb.cell k).trans (cells_nth X k hlt)
                  have cs : wr.cell? ⟨gs, k, none⟩ = some (.int .u32 (s.nth k)) := (hsb.cell k).trans ((addCells_rest s X k k (Nat.le_refl _)).trans (cells_nth s k hlt))
                  have fs := hsb.frozen k
                  have z0 : 0 ≤ (k : Int) := by omega
                  have zk : (k : Int) < 8 := by omega
                  go_wp2_with fail
                  refine wp_region_still_tail 11 (by kernel_rfl) (by kernel_rfl) ?_
                  simp only [List.take_succ_cons, List.take_zero, List.drop_succ_cons, List.drop_zero]
                  show wpStill _ _ (World.drew _) _ _ _
                  repeat still_step
                  refine wpStill_nil ?_
                  show wpList _ _ _ _ _ (World.drew _)
                  go_wp2_with fail
                  go_roundw
                  case rel =>
                    refine ⟨k + 1, by omega, by go_num, ?_, ?_, ?_⟩
                    · rw [← HX.out]
                      exact hvb.drew.far (p := ⟨gs, k, none⟩) hne.symm _
                    · rw [← HX.out]
                      exact hsb.drew.set k _
                    · exact ho.drew.set (.inl rfl) _
                  case measure => simp [intOf]; omega
                · obtain rfl : k = 8 := by omega
                  go_wp2_with fail
                  go_end0
                  exact ⟨rfl, addCells_all s _ ▸ hsb, ho⟩
end Go.Proofs.YtkkcbkfpaoldmaaGreatDoor

/- Walk: digest.Sum. -/
namespace Go.Proofs.YtkkcbkfpaoldmaaGreatDoor
open Go.RowKit

/-- The two package-level tables hold what they are declared to hold. -/
structure Laid (w : World) : Prop where
  start : ∀ i, i < 8 → w.cell? ⟨0, i, none⟩ = some (.int .u32 (St.start.nth i))
  nums : ∀ t, t < 64 → w.cell? ⟨1, t, none⟩ = some (.int .u32 (kAt t))
theorem Laid.lt0 {w : World} (h : Laid w) : 0 < w.heap.size := World.block_lt_of_cell? w _ (h.start 0 (by omega))
theorem Laid.lt1 {w : World} (h : Laid w) : 1 < w.heap.size := World.block_lt_of_cell? w _ (h.nums 0 (by omega))
theorem Laid.below {w w' : World} (h : Laid w) (hb : Below w.heap.size w w') : Laid w' :=
  ⟨fun i hi => (hb.cell (p := ⟨0, i, none⟩) h.lt0).trans (h.start i hi), fun t ht => (hb.cell (p := ⟨1, t, none⟩) h.lt1).trans (h.nums t ht)⟩

theorem Tryz.size5 : (Tryz.prog.info? 5).map (·.size) = some 1 := by kernel_rfl
theorem bInfo_all : ∃ i, Tryz.prog.info? 5 = some i ∧ i.zero = some (.int .u8 0) ∧ i.size = 1 ∧ i.bytes = 1 := by
  have h : (Tryz.prog.info? 5).map (fun i => (i.zero, i.size, i.bytes)) = some (some (.int .u8 0), 1, 1) := by kernel_rfl
  obtain ⟨i, hi, h0, h1, h2⟩ := info_parts h
  exact ⟨i, hi, h0, h1, h2⟩
noncomputable def bInfo : TypeInfo := bInfo_all.choose
theorem bInfo_eq : Tryz.prog.info? 5 = some bInfo := bInfo_all.choose_spec.1
theorem bInfo_zero : bInfo.zero = some (.int .u8 0) := bInfo_all.choose_spec.2.1
theorem bInfo_size : bInfo.size = 1 := bInfo_all.choose_spec.2.2.1
theorem bInfo_bytes : bInfo.bytes = 1 := bInfo_all.choose_spec.2.2.2

theorem Tryz.size31 : (Tryz.prog.info? 31).map (·.size) = some 32 := by kernel_rfl
theorem one_of (cs : Array Value) (h : ∀ i, i < cs.size → ∃ v, cs[i]? = some v ∧ v.oneCell' = true) : cs.all (·.oneCell') = true := by
  refine Array.all_eq_true_iff_forall_mem.2 fun v hv => ?_
  obtain ⟨i, hi, rfl⟩ := Array.mem_iff_getElem.1 hv
  obtain ⟨u, hu, h1⟩ := h i hi
  rw [Array.getElem?_eq_getElem hi] at hu
  injection hu with hu
  rw [hu]
  exact h1
theorem digCells_one (X : St) : (digCells X 8).all (·.oneCell') = true :=
  one_of _ fun i hi => ⟨_, digCells_get X 8 (Nat.le_refl _) i (by rw [digCells_size] at hi; omega), rfl⟩
theorem idx8 (X : St) (k : Nat) (hk : k < 8) (w : World) : (Instr.index 201 (.agg #[.int .u32 X.a, .int .u32 X.b, .int .u32 X.c, .int .u32 X.d, .int .u32 X.e, .int .u32 X.f, .int .u32 X.g, .int .u32 X.h]) (.int .i64 k)).run Tryz.prog w = .ok (.int .u32 (X.nth k)) w := by
  have h : (Instr.index 201 (.agg X.cells) (.int .i64 k)).run Tryz.prog w = .ok (.int .u32 (X.nth k)) w := by
    have hs : ∀ w, (sizeOf 174).run Tryz.prog w = .ok 1 w := fun _ => by kernel_rfl
    have ha : ∀ w, (isAgg 174).run Tryz.prog w = .ok false w := fun _ => by kernel_rfl
    have z1 : ¬ 8 ≤ k := by omega
    simp [Instr.index, asIntOf, run_underlying Tryz.underlying201, hs, part, ha, z1, cells_nth X k hk]
  exact h
theorem slice_dig (w : World) (g k : Nat) (hk : k < 8) : (Instr.sliceAt 31 (.pointer (some ⟨g, 0, none⟩)) (some (.int .i64 (4 * (k : Int)))) (some (.int .i64 (4 * (k : Int) + 4))) none).run Tryz.prog w = .ok (.slice (some ⟨g, 4 * k, none⟩) 4 (32 - 4 * k)) w := by
  have hs : ∀ w, (sizeOf 5).run Tryz.prog w = .ok 1 w := fun _ => by kernel_rfl
  have z0 : 0 ≤ 4 * (k : Int) := by omega
  have z1 : 4 * (k : Int) + 4 ≤ 32 := by omega
  have z2 : 0 ≤ 4 * (k : Int) + 4 := by omega
  have n1 : (4 * (k : Int) + 4).toNat = 4 * k + 4 := by omega
  have n2 : (4 * (k : Int)).toNat = 4 * k := by omega
  have n3 : ¬ 32 = 4 * k := by omega
  have n4 : ¬ 4 * (k : Int) + 4 < 4 * (k : Int) := by omega
  simp [Instr.sliceAt, Instr.sureAddr, run_underlying Tryz.underlying31, Instr.sliceBounds, Instr.sliceBound, asIntOf, hs, z0, z1, z2, n1, n2, n3, n4, Addr.add_mid]
def SumPost (s : St) (w : World) (e : Ending) (w' : World) : Prop := (∃ cs : Array Value, e = .returned (.agg cs) ∧ cs.size = 32 ∧ ∀ i, i < 32 → cs[i]? = some (.int .u8 (digByte s i))) ∧ Below w.heap.size w w'

set_option maxRecDepth 100000 in
set_option maxHeartbeats 1000000 in
theorem sum_any (A : Option Addr) (n cap : Nat) (f : Nat → Int) (w : World) (hL : Laid w) (hA : Rd w w.heap.size A n fun k => .int .u8 (f k)) (hn : n ≤ cap) (hcap : cap ≤ 9223372036854775807) (hn48 : n ≤ 281474976710656) :
    Calls Tryz.prog 138 #[.slice A n cap] w (SumPost (shaEnd f n) w) := by
  have s0 : w.cell? ⟨0, 0, none⟩ = some (.int .u32 St.start.a) := hL.start 0 (by omega)
  have s1 : w.cell? ⟨0, 1, none⟩ = some (.int .u32 St.start.b) := hL.start 1 (by omega)
  have s2 : w.cell? ⟨0, 2, none⟩ = some (.int .u32 St.start.c) := hL.start 2 (by omega)
  have s3 : w.cell? ⟨0, 3, none⟩ = some (.int .u32 St.start.d) := hL.start 3 (by omega)
  have s4 : w.cell? ⟨0, 4, none⟩ = some (.int .u32 St.start.e) := hL.start 4 (by omega)
  have s5 : w.cell? ⟨0, 5, none⟩ = some (.int .u32 St.start.f) := hL.start 5 (by omega)
  have s6 : w.cell? ⟨0, 6, none⟩ = some (.int .u32 St.start.g) := hL.start 6 (by omega)
  have s7 : w.cell? ⟨0, 7, none⟩ = some (.int .u32 St.start.h) := hL.start 7 (by omega)
  have l0 := hL.lt0
  go_enter Tryz.func138, Tryz.ntmps138
  go_wp2_with fail
  clear s0 s1 s2 s3 s4 s5 s6 s7
  obtain ⟨F, hF⟩ : ∃ F, F = padAt f n := ⟨_, rfl⟩
  have HF := Lib.hid hF
  clear hF
  go_loopw [5] (fun v wr => ∃ (j : Nat) (A' : Option Addr), 64 * j ≤ n ∧ v = .slice A' (n - 64 * j) (cap - 64 * j) ∧ Rd wr w.heap.size A' (n - 64 * j) (fun k => .int .u8 (f (64 * j + k))) ∧ Blk wr (w.heap.size + 1) 201 (shaTo F j).cells ∧ Blk wr w.heap.size 31 (Array.replicate 32 (.int .u8 0)) ∧ Below w.heap.size w wr)
    (fun v _ => match v with | .slice _ l _ => l | _ => 0)
  case atStart =>
    refine ⟨0, A, by omega, rfl, ?_, ?_, ?_, ?_⟩
    · simpa using (hA.alloc (Nat.le_refl _) _).alloc (by simp) _
    · exact heap_alloc2_new w _ _
    · exact (Blk.new w _ _).alloc _
    · exact ((Below.refl _ w).alloc (Nat.le_refl _) _).alloc (by simp) _
  case round =>
    obtain ⟨j, A', hj, rfl, hR, hS, hD, hB⟩ := hrel
    by_cases hlt : 64 * j + 64 ≤ n
    · obtain ⟨b, off, rfl, hb, hc⟩ := hR (by omega)
      have hcut := hR.cut (m := 64) (cap := cap - 64 * j) (by omega) (by omega)
      obtain ⟨m, hm⟩ : ∃ m, m = n - 64 * j := ⟨_, rfl⟩
      obtain ⟨c', hc'⟩ : ∃ c', c' = cap - 64 * j := ⟨_, rfl⟩
      rw [← hm, ← hc'] at hcut ⊢
      rw [← hm] at hc
      have hl : 64 ≤ m := by omega
      have hlc : m ≤ c' := by omega
      have hl2 : 64 ≤ c' := by omega
      have hcl : c' ≤ 9223372036854775807 := by omega
      have HM := Lib.hid hm
      have HC := Lib.hid hc'
      clear hm hc'
      go_wp2_with fail
      refine (absorb_any (w.heap.size + 1) b off _ _ (shaTo F j) (fun k => F (64 * j + k)) _ hS (Nat.le_refl _) hl2 hcl (fun k hk => ?_) (fun t ht => ?_)).mono ?_
      · rw [hc k (by omega), HF.out, padAt, if_pos (by omega)]
      · exact (hL.below hB).nums t ht
      rintro e w' ⟨rfl, hS', hO⟩
      have hB' : Below w.heap.size wr w' := hO.toBelow hB.size (Nat.le_succ _)
      have hD' := hD.grown hO (by simp)
      have hcut' := hcut.below hB'
      have hsz : w.heap.size ≤ w'.heap.size := Nat.le_trans hB.size hO.size
      by_cases hcp : c' = 64
      · obtain rfl : m = 64 := by omega
        subst hcp
        go_wp2_with fail
        go_roundw
        case rel =>
          have e1 := HM.out
          have e2 := HC.out
          exact ⟨j + 1, _, by omega, by rw [show n - 64 * (j + 1) = 0 from by omega, show cap - 64 * (j + 1) = 0 from by omega], by rw [show n - 64 * (j + 1) = 0 from by omega]; exact Rd.zero, hS', hD', hB.trans hB'⟩
        case measure => simp
      · rw [if_neg hcp] at hcut'
        go_wp2_with fail
        go_roundw
        case rel =>
          have e1 := HM.out
          have e2 := HC.out
          refine ⟨j + 1, _, by omega, by rw [show n - 64 * (j + 1) = m - 64 from by omega, show cap - 64 * (j + 1) = c' - 64 from by omega], ?_, hS', hD', hB.trans hB'⟩
          rw [show n - 64 * (j + 1) = m - 64 from by omega]
          refine (hcut').congr fun k _ => ?_
          rw [show 64 * (j + 1) + k = 64 * j + (64 + k) from by omega]
        case measure => simp; omega
    · generalize hr : n - 64 * j = r at hR ⊢
      generalize hc' : cap - 64 * j = c'
      have hr64 : r < 64 := by omega
      have hnr : n = 64 * j + r := by omega
      have HN := Lib.hid hnr
      clear hr hc' hnr hlt hj
      have hmk : ∀ W : World, (Instr.makeSlice 177 (.int .i64 64) (.int .i64 128)).run Tryz.prog W = .ok (.slice (some ⟨W.heap.size, 0, none⟩) 64 128) (W.alloc (.cells (zeros 128) 5)) := fun W => run_make_bytes (P := Tryz.prog) 177 5 bInfo Tryz.underlying177 bInfo_eq bInfo_zero bInfo_size bInfo_bytes 64 128 (by omega) (by omega) W
      obtain ⟨wo, rfl⟩ : ∃ wo : World, wo = wr := ⟨_, rfl⟩
      have hbz : Blk (wo.alloc (.cells (zeros 128) 5)) wo.heap.size 5 (zeros 128) := Blk.new _ _ _
      have hcopy := fun ty => run_copy_rd (P := Tryz.prog) (wo.alloc (.cells (zeros 128) 5)) 177 177 ty 5 Tryz.underlying177 Tryz.size5 hbz 0 64 128 (sCap := c') (hR.alloc hB.size (.cells (zeros 128) 5)) (by omega) (by rw [zeros_size]; omega) (fun _ _ => rfl)
      rw [World.setRow_alloc_new] at hcopy
      obtain ⟨E0, hE0⟩ : ∃ E0, E0 = splice (zeros 128) 0 r (fun k => .int .u8 (f (64 * j + k))) := ⟨_, rfl⟩
      rw [← hE0] at hcopy
      have hE0s : r < E0.size := by rw [hE0, splice_size _ _ _ _ (by rw [zeros_size]; omega), zeros_size]; omega
      have HS := Lib.hid (show E0.size = 128 by rw [hE0, splice_size _ _ _ _ (by rw [zeros_size]; omega), zeros_size])
      have hE0c : E0[r]? = some E0[r] := Array.getElem?_eq_getElem hE0s
      generalize E0[r] = e0 at hE0c
      have HE := Lib.hid hE0
      clear hE0 hE0s hbz
      have hws := hB.size
      have hDl := hD.lt
      have hSl := hS.lt
      rcases Nat.lt_or_ge 55 r with h55 | h55
      · have HQ := Lib.hid (show 2 = (r + 8) / 64 + 1 by omega)
        go_wp2_with fail
        refine (put_any wo.heap.size 120 8 _ 5 (E0.setIfInBounds r (.int .u8 128)) _ _ (Blk.new _ _ _) (Nat.le_refl _) (by rw [Array.size_setIfInBounds, HS.out]; omega)).mono ?_
        rintro e w1 ⟨rfl, hE, hO⟩
        have hE1 : Blk w1 wo.heap.size 5 (endCells f n j r 2) := by rw [endCells, ← HE.out]; exact hE
        have hS1 := (hS.alloc (.cells (E0.setIfInBounds r (.int .u8 128)) 5)).grown hO (by simp; omega)
        have hD1 := (hD.alloc (.cells (E0.setIfInBounds r (.int .u8 128)) 5)).grown hO (by simp; omega)
        have hB1 : Below w.heap.size w w1 := (hB.alloc hB.size _).trans (hO.toBelow (by simp; omega) hB.size)
        clear hcopy hE hO hmk hE0c hS hD hB hR
        go_wp2_with fail
        go_loopw [6] (fun v wr => ∃ i o : Nat, i ≤ 2 ∧ v = .slice (some ⟨wo.heap.size, o, none⟩) (64 * (2 - i)) (128 - 64 * i) ∧ (i < 2 → o = 64 * i) ∧ Blk wr wo.heap.size 5 (endCells f n j r 2) ∧ Blk wr (w.heap.size + 1) 201 (shaTo F (j + i)).cells ∧ Blk wr w.heap.size 31 (Array.replicate 32 (.int .u8 0)) ∧ Below w.heap.size w wr)
          (fun v _ => match v with | .slice _ l _ => l | _ => 0)
        case atStart => exact ⟨0, 0, by omega, rfl, fun _ => rfl, hE1, hS1, hD1, hB1⟩
        case round =>
          clear hE1 hS1 hD1 hB1
          obtain ⟨i, o, hi, rfl, ho, hE, hS, hD, hB⟩ := hrel
          have hcell : ∀ i, i < 2 → ∀ k, k < 64 → wr.cell? ⟨wo.heap.size, 64 * i + k, none⟩ = some (.int .u8 (F (64 * (j + i) + k))) := by
            intro i hi k hk
            rw [hE.cell, HF.out, endCells_get f n j r 2 HN.out hr64 HQ.out _ (by omega), show 64 * (j + i) + k = 64 * j + (64 * i + k) from by omega]
          by_cases hi0 : i = 0
          · subst hi0
            obtain rfl := ho (by omega)
            have HC := Lib.hid (hcell 0 (by omega))
            clear hcell ho
            simp only [Nat.reduceMul, Nat.mul_zero, Nat.sub_zero]
            go_wp2_with fail
            refine (absorb_any (w.heap.size + 1) wo.heap.size 0 _ _ (shaTo F (j + 0)) (fun k => F (64 * (j + 0) + k)) _ hS (by omega) (by omega) (by omega) HC.out (fun t ht => (hL.below hB).nums t ht)).mono ?_
            rintro e w2 ⟨rfl, hS', hO⟩
            have hE' := hE.grown hO (by simp; omega)
            have hD' := hD.grown hO (by simp)
            have hB' : Below w.heap.size w w2 := hB.trans (hO.toBelow hB.size (Nat.le_succ _))
            clear hE hS hD hB
            go_wp2_with fail
            go_roundw
            case rel => exact ⟨1, 64, by omega, rfl, fun h => by omega, hE', hS', hD', hB'⟩
            case measure => simp
          by_cases hi1 : i = 1
          · subst hi1
            obtain rfl := ho (by omega)
            have HC := Lib.hid (hcell 1 (by omega))
            clear hcell ho
            simp only [Nat.reduceMul, Nat.reduceSub]
            go_wp2_with fail
            refine (absorb_any (w.heap.size + 1) wo.heap.size 64 _ _ (shaTo F (j + 1)) (fun k => F (64 * (j + 1) + k)) _ hS (by omega) (by omega) (by omega) HC.out (fun t ht => (hL.below hB).nums t ht)).mono ?_
            rintro e w2 ⟨rfl, hS', hO⟩
            have hE' := hE.grown hO (by simp; omega)
            have hD' := hD.grown hO (by simp)
            have hB' : Below w.heap.size w w2 := hB.trans (hO.toBelow hB.size (Nat.le_succ _))
            clear hE hS hD hB
            go_wp2_with fail
            go_roundw
            case rel => exact ⟨2, 64, by omega, rfl, fun h => by omega, hE', hS', hD', hB'⟩
            case measure => simp
          have hiq : i = 2 := by omega
          subst hiq
          clear hcell ho hi0 hi1
          simp only [Nat.reduceMul, Nat.mul_zero, Nat.sub_self]
          have hend : shaTo F (j + 2) = shaEnd f n := by rw [shaEnd, HF.out, show (n + 8) / 64 + 1 = j + 2 from by have := HQ.out; have := HN.out; omega]
          rw [hend] at hS
          clear hend
          obtain ⟨X, hX⟩ : ∃ X, X = shaEnd f n := ⟨_, rfl⟩
          have hXf : X.Fits := by rw [hX]; exact shaEnd_fits f n
          rw [← hX] at hS
          have HX := Lib.hid hX
          clear hX
          have c0 : wr.cell? ⟨w.heap.size + 1, 0, none⟩ = some (.int .u32 X.a) := hS.cell 0
          have c1 : wr.cell? ⟨w.heap.size + 1, 1, none⟩ = some (.int .u32 X.b) := hS.cell 1
          have c2 : wr.cell? ⟨w.heap.size + 1, 2, none⟩ = some (.int .u32 X.c) := hS.cell 2
          have c3 : wr.cell? ⟨w.heap.size + 1, 3, none⟩ = some (.int .u32 X.d) := hS.cell 3
          have c4 : wr.cell? ⟨w.heap.size + 1, 4, none⟩ = some (.int .u32 X.e) := hS.cell 4
          have c5 : wr.cell? ⟨w.heap.size + 1, 5, none⟩ = some (.int .u32 X.f) := hS.cell 5
          have c6 : wr.cell? ⟨w.heap.size + 1, 6, none⟩ = some (.int .u32 X.g) := hS.cell 6
          have c7 : wr.cell? ⟨w.heap.size + 1, 7, none⟩ = some (.int .u32 X.h) := hS.cell 7
          go_wp2_with fail
          clear c0 c1 c2 c3 c4 c5 c6 c7 hS
          go_loopw [54] (fun i wr => ∃ k : Nat, k ≤ 8 ∧ i = .int .i64 k ∧ Blk wr w.heap.size 31 (digCells X k) ∧ Below w.heap.size w wr) (fun i _ => 8 - (intOf i).toNat)
          case atStart => exact ⟨0, by omega, rfl, hD, hB⟩
          case round =>
            clear hD hB
            obtain ⟨k, hk, rfl, hD, hB⟩ := hrel
            by_cases hlt : k < 8
            · have hidx := fun W => idx8 X k hlt W
              have hsl := fun W => slice_dig W w.heap.size k hlt
              obtain ⟨x0, x1⟩ := hXf k hlt
              generalize hxk : X.nth k = xk at hidx x0 x1
              have HXK := Lib.hid hxk
              clear hxk
              have z0 : 0 ≤ (k : Int) := by omega
              have zk : (k : Int) < 8 := by omega
              go_wp2_with fail
              refine (put_any w.heap.size (4 * k) 4 _ 31 (digCells X k) _ _ hD (by omega) (by rw [digCells_size]; omega)).mono ?_
              rintro e w2 ⟨rfl, hD', hO⟩
              have hB' := hB.trans (hO.toBelow hB.size (Nat.le_refl _))
              clear hidx hsl hD hB
              go_wp2_with fail
              go_roundw
              case rel => exact ⟨k + 1, by omega, by go_num, by rw [digCells, HXK.out]; exact hD', hB'⟩
              case measure => simp [intOf]; omega
            · obtain rfl : k = 8 := by omega
              have hsz : (Tryz.prog.info? 31).map (·.size) = some (digCells X 8).size := by rw [digCells_size]; exact Tryz.size31
              have hone : (digCells X 8).all (·.oneCell') = true := digCells_one X
              go_wp2_with (first | (refine wpList_load_row rfl 31 _ rfl w.heap.size rfl 31 (digCells X 8) (0, 0) _ hD Tryz.underlying31 rfl hsz ?_) | (refine wpList_store_row rfl 31 _ _ rfl w.heap.size (digCells X 8) rfl rfl 31 (digCells X 8) hD hsz rfl hone ?_))
              have hD2 : Blk (wr.setRow w.heap.size (digCells X 8)) w.heap.size 31 (digCells X 8) := setRow_heap wr _ _ _ _ _ hD
              refine bodyPost_ret (results_cell_row rfl _ _ w.heap.size 31 (digCells X 8) (0, 0) _ rfl hD2 Tryz.underlying31 rfl hsz) rfl ?_
              rw [← HX.out]
              exact ⟨⟨_, rfl, digCells_size _ _, fun i hi => digCells_get X 8 (Nat.le_refl _) i (by omega)⟩, below_setRow hB (Nat.le_refl _) _⟩
      · have HQ := Lib.hid (show 1 = (r + 8) / 64 + 1 by omega)
        go_wp2_with fail
        refine (put_any wo.heap.size 56 8 _ 5 (E0.setIfInBounds r (.int .u8 128)) _ _ (Blk.new _ _ _) (Nat.le_refl _) (by rw [Array.size_setIfInBounds, HS.out]; omega)).mono ?_
        rintro e w1 ⟨rfl, hE, hO⟩
        have hE1 : Blk w1 wo.heap.size 5 (endCells f n j r 1) := by rw [endCells, ← HE.out]; exact hE
        have hS1 := (hS.alloc (.cells (E0.setIfInBounds r (.int .u8 128)) 5)).grown hO (by simp; omega)
        have hD1 := (hD.alloc (.cells (E0.setIfInBounds r (.int .u8 128)) 5)).grown hO (by simp; omega)
        have hB1 : Below w.heap.size w w1 := (hB.alloc hB.size _).trans (hO.toBelow (by simp; omega) hB.size)
        clear hcopy hE hO hmk hE0c hS hD hB hR
        go_wp2_with fail
        go_loopw [6] (fun v wr => ∃ i o : Nat, i ≤ 1 ∧ v = .slice (some ⟨wo.heap.size, o, none⟩) (64 * (1 - i)) (128 - 64 * i) ∧ (i < 1 → o = 64 * i) ∧ Blk wr wo.heap.size 5 (endCells f n j r 1) ∧ Blk wr (w.heap.size + 1) 201 (shaTo F (j + i)).cells ∧ Blk wr w.heap.size 31 (Array.replicate 32 (.int .u8 0)) ∧ Below w.heap.size w wr)
          (fun v _ => match v with | .slice _ l _ => l | _ => 0)
        case atStart => exact ⟨0, 0, by omega, rfl, fun _ => rfl, hE1, hS1, hD1, hB1⟩
        case round =>
          clear hE1 hS1 hD1 hB1
          obtain ⟨i, o, hi, rfl, ho, hE, hS, hD, hB⟩ := hrel
          have hcell : ∀ i, i < 1 → ∀ k, k < 64 → wr.cell? ⟨wo.heap.size, 64 * i + k, none⟩ = some (.int .u8 (F (64 * (j + i) + k))) := by
            intro i hi k hk
            rw [hE.cell, HF.out, endCells_get f n j r 1 HN.out hr64 HQ.out _ (by omega), show 64 * (j + i) + k = 64 * j + (64 * i + k) from by omega]
          by_cases hi0 : i = 0
          · subst hi0
            obtain rfl := ho (by omega)
            have HC := Lib.hid (hcell 0 (by omega))
            clear hcell ho
            simp only [Nat.reduceMul, Nat.mul_zero, Nat.sub_zero]
            go_wp2_with fail
            refine (absorb_any (w.heap.size + 1) wo.heap.size 0 _ _ (shaTo F (j + 0)) (fun k => F (64 * (j + 0) + k)) _ hS (by omega) (by omega) (by omega) HC.out (fun t ht => (hL.below hB).nums t ht)).mono ?_
            rintro e w2 ⟨rfl, hS', hO⟩
            have hE' := hE.grown hO (by simp; omega)
            have hD' := hD.grown hO (by simp)
            have hB' : Below w.heap.size w w2 := hB.trans (hO.toBelow hB.size (Nat.le_succ _))
            clear hE hS hD hB
            go_wp2_with fail
            go_roundw
            case rel => exact ⟨1, 64, by omega, rfl, fun h => by omega, hE', hS', hD', hB'⟩
            case measure => simp
          have hiq : i = 1 := by omega
          subst hiq
          clear hcell ho hi0
          simp only [Nat.reduceMul, Nat.reduceSub, Nat.mul_zero, Nat.sub_self]
          have hend : shaTo F (j + 1) = shaEnd f n := by rw [shaEnd, HF.out, show (n + 8) / 64 + 1 = j + 1 from by have := HQ.out; have := HN.out; omega]
          rw [hend] at hS
          clear hend
          obtain ⟨X, hX⟩ : ∃ X, X = shaEnd f n := ⟨_, rfl⟩
          have hXf : X.Fits := by rw [hX]; exact shaEnd_fits f n
          rw [← hX] at hS
          have HX := Lib.hid hX
          clear hX
          have c0 : wr.cell? ⟨w.heap.size + 1, 0, none⟩ = some (.int .u32 X.a) := hS.cell 0
          have c1 : wr.cell? ⟨w.heap.size + 1, 1, none⟩ = some (.int .u32 X.b) := hS.cell 1
          have c2 : wr.cell? ⟨w.heap.size + 1, 2, none⟩ = some (.int .u32 X.c) := hS.cell 2
          have c3 : wr.cell? ⟨w.heap.size + 1, 3, none⟩ = some (.int .u32 X.d) := hS.cell 3
          have c4 : wr.cell? ⟨w.heap.size + 1, 4, none⟩ = some (.int .u32 X.e) := hS.cell 4
          have c5 : wr.cell? ⟨w.heap.size + 1, 5, none⟩ = some (.int .u32 X.f) := hS.cell 5
          have c6 : wr.cell? ⟨w.heap.size + 1, 6, none⟩ = some (.int .u32 X.g) := hS.cell 6
          have c7 : wr.cell? ⟨w.heap.size + 1, 7, none⟩ = some (.int .u32 X.h) := hS.cell 7
          go_wp2_with fail
          clear c0 c1 c2 c3 c4 c5 c6 c7 hS
          go_loopw [54] (fun i wr => ∃ k : Nat, k ≤ 8 ∧ i = .int .i64 k ∧ Blk wr w.heap.size 31 (digCells X k) ∧ Below w.heap.size w wr) (fun i _ => 8 - (intOf i).toNat)
          case atStart => exact ⟨0, by omega, rfl, hD, hB⟩
          case round =>
            clear hD hB
            obtain ⟨k, hk, rfl, hD, hB⟩ := hrel
            by_cases hlt : k < 8
            · have hidx := fun W => idx8 X k hlt W
              have hsl := fun W => slice_dig W w.heap.size k hlt
              obtain ⟨x0, x1⟩ := hXf k hlt
              generalize hxk : X.nth k = xk at hidx x0 x1
              have HXK := Lib.hid hxk
              clear hxk
              have z0 : 0 ≤ (k : Int) := by omega
              have zk : (k : Int) < 8 := by omega
              go_wp2_with fail
              refine (put_any w.heap.size (4 * k) 4 _ 31 (digCells X k) _ _ hD (by omega) (by rw [digCells_size]; omega)).mono ?_
              rintro e w2 ⟨rfl, hD', hO⟩
              have hB' := hB.trans (hO.toBelow hB.size (Nat.le_refl _))
              clear hidx hsl hD hB
              go_wp2_with fail
              go_roundw
              case rel => exact ⟨k + 1, by omega, by go_num, by rw [digCells, HXK.out]; exact hD', hB'⟩
              case measure => simp [intOf]; omega
            · obtain rfl : k = 8 := by omega
              have hsz : (Tryz.prog.info? 31).map (·.size) = some (digCells X 8).size := by rw [digCells_size]; exact Tryz.size31
              have hone : (digCells X 8).all (·.oneCell') = true := digCells_one X
              go_wp2_with (first | (refine wpList_load_row rfl 31 _ rfl w.heap.size rfl 31 (digCells X 8) (0, 0) _ hD Tryz.underlying31 rfl hsz ?_) | (refine wpList_store_row rfl 31 _ _ rfl w.heap.size (digCells X 8) rfl rfl 31 (digCells X 8) hD hsz rfl hone ?_))
              have hD2 : Blk (wr.setRow w.heap.size (digCells X 8)) w.heap.size 31 (digCells X 8) := setRow_heap wr _ _ _ _ _ hD
              refine bodyPost_ret (results_cell_row rfl _ _ w.heap.size 31 (digCells X 8) (0, 0) _ rfl hD2 Tryz.underlying31 rfl hsz) rfl ?_
              rw [← HX.out]
              exact ⟨⟨_, rfl, digCells_size _ _, fun i hi => digCells_get X 8 (Nat.le_refl _) i (by omega)⟩, below_setRow hB (Nat.le_refl _) _⟩
end Go.Proofs.YtkkcbkfpaoldmaaGreatDoor

/- Several texts in one: N25, N26, N27, N28, N29, N30, N31. -/
import Derived.Test.YtkkcbkfpaoldmaaGreatDoorM12
import Derived.Deep.LoopGhost
import Derived.Test.YtkkcbkfpaoldmaaGreatDoorM10
/- Walk: nat.Gcd of integers that are not negative. -/
namespace Go.Proofs.YtkkcbkfpaoldmaaGreatDoor
open Go Go.RowKit

/-- An integer of the call's own making, and no error. -/
def BigRes (v : Int) (w : World) (e : Ending) (w' : World) : Prop :=
  ∃ (l : List Int) (A : Option Addr) (n c : Nat), e = .returned (.tuple #[.agg #[.bool false, .slice A n c], .int .i64 0]) ∧ valL l = v ∧ BigOk w' w'.heap.size false A n c l ∧ Below w.heap.size w w'
theorem gcd_step (x y : Int) (hx : 0 ≤ x) (hy : 0 < y) : Int.gcd y (x % y) = Int.gcd x y := by
  obtain ⟨a, rfl⟩ : ∃ a : Nat, x = a := ⟨x.toNat, by omega⟩
  obtain ⟨b, rfl⟩ : ∃ b : Nat, y = b := ⟨y.toNat, by omega⟩
  have e : ((a : Int) % (b : Int)) = ((a % b : Nat) : Int) := by simp
  rw [e]
  show Nat.gcd _ _ = Nat.gcd _ _
  simp only [Int.natAbs_natCast]
  rw [Nat.gcd_comm b, ← Nat.gcd_rec, Nat.gcd_comm]
theorem gcd_end (x : Int) (hx : 0 ≤ x) : ((Int.gcd x 0 : Nat) : Int) = x := by
  rw [Int.gcd_zero_right]
  omega
/-- Digits do not lie in a block that holds none: what turns that block alone leaves them. -/
theorem mrd_only {w w' : World} {B : Nat} {A : Option Addr} {l : List Int} {g : Nat} {t : TypeId} {cs : Array Value} (h : MRd w B A l) (hg : Blk w g t cs) (hn : ∀ (i : Nat) (x : Int), cs[i]? ≠ some (Value.int .i64 x)) (ho : Only w w' g) : MRd w' B A l := fun hl => by
  obtain ⟨b, off, e, hb, hc⟩ := h hl
  refine ⟨b, off, e, hb, fun k hk => ?_⟩
  have h1 := hc k hk
  have hne : b ≠ g := by
    rintro rfl
    rw [hg.cell] at h1
    exact hn _ _ h1
  exact (World.grownBy.cell ho h1 (fun e2 => hne (by simpa using e2)))
/-- A cell is given what it holds. -/
theorem mrd_same {w : World} {B : Nat} {A : Option Addr} {l : List Int} {g : Nat} {t : TypeId} {v : Value} (h : MRd w B A l) (hg : Blk w g t #[v]) : MRd (w.setCell ⟨g, 0, none⟩ v) B A l := fun hl => by
  obtain ⟨b, off, e, hb, hc⟩ := h hl
  refine ⟨b, off, e, hb, fun k hk => ?_⟩
  have h1 := hc k hk
  rcases Nat.decEq b g with hne | rfl
  · exact (World.cell?_setCell_other w ⟨g, 0, none⟩ ⟨b, off + k, none⟩ v (fun e2 => hne (by have e3 := congrArg Addr.block e2; exact e3.symm))).trans h1
  · have h2 := (hg.set 0 v).cell (off + k)
    have h3 := hg.cell (off + k)
    rw [h2, ← h1, h3]
    rcases off + k with _ | j <;> simp
theorem big_noint (neg : Bool) (A : Option Addr) (n c : Nat) (i : Nat) (x : Int) : (#[Value.bool neg, Value.slice A n c])[i]? ≠ some (Value.int .i64 x) := by
  rcases i with _ | _ | i <;> simp
theorem BigOk.rdIn {w w' : World} {B : Nat} {neg : Bool} {A : Option Addr} {n c : Nat} {l : List Int} (h : BigOk w B neg A n c l) (hr : MRd w' w'.heap.size A l) : BigOk w' w'.heap.size neg A n c l := { h with rd := hr }
set_option maxRecDepth 100000 in
set_option linter.unusedSimpArgs false in
set_option linter.unusedVariables false in
set_option maxHeartbeats 4000000 in
theorem nGcd_ok (A1 A2 : Option Addr) (l1 k1 l2 k2 : Nat) (a b : List Int) (w : World) (ha : BigOk w w.heap.size false A1 l1 k1 a) (hb : BigOk w w.heap.size false A2 l2 k2 b) :
    Calls Tryz.prog 55 #[.agg #[.bool false, .slice A1 l1 k1], .agg #[.bool false, .slice A2 l2 k2]] w (BigRes (Int.gcd (valL a) (valL b)) w) := by
  have HC := Lib.hid (fun W g (hg : Blk W g 27 #[.bool false, .slice A1 l1 k1, .bool false, .slice A2 l2 k2]) (h : Below w.heap.size w W) => ncheck_two false false A1 A2 l1 k1 l2 k2 a b g W hg ((ha.below h).more h.size) ((hb.below h).more h.size))
  have HA := Lib.hid ha
  have HB := Lib.hid hb
  obtain ⟨G, hG⟩ : ∃ G : Int, G = Int.gcd (valL a) (valL b) := ⟨_, rfl⟩
  rw [← hG]
  have HG := Lib.hid hG
  clear ha hb hG
  go_enter_defers Tryz.func55, Tryz.ntmps55
  go_wp2_with fail
  refine calls_gen (fun W => Blk W w.heap.size 27 #[.bool false, .slice A1 l1 k1] ∧ Blk W (w.heap.size + 1) 27 #[.bool false, .slice A2 l2 k2] ∧ Blk W (w.heap.size + 2) 27 #[.bool false, .slice none 0 0] ∧ Blk W (w.heap.size + 3) 32 #[.int .i64 0] ∧ Blk W (w.heap.size + 4) 27 #[.bool false, .slice A1 l1 k1, .bool false, .slice A2 l2 k2] ∧ Below w.heap.size w W)
    ⟨((((Blk.new w _ _).alloc _).alloc _).alloc _).alloc _, (((Blk.new' _ _ _ (by simp)).alloc _).alloc _).alloc _, ((Blk.new' _ _ _ (by simp)).alloc _).alloc _, (Blk.new' _ _ _ (by simp)).alloc _, Blk.new' _ _ _ (by simp), (((((Below.refl _ w).alloc (Nat.le_refl _) _).alloc (by simp) _).alloc (by simp; omega) _).alloc (by simp; omega) _).alloc (by simp; omega) _⟩ (fun W0 ⟨b0, b1, b2, b3, b4, hB0⟩ => ?_)
  refine (HC.out W0 _ b4 hB0).mono ?_
  rintro e w1 ⟨rfl, hb1⟩
  have d0 := b0.below hb1 b0.lt
  have d1 := b1.below hb1 b1.lt
  have D2 := Lib.hid (b2.below hb1 b2.lt)
  have D3 := Lib.hid (b3.below hb1 b3.lt)
  have HB1 := Lib.hid (hB0.trans (hb1.mono hB0.size))
  have x1 : w1.cell? ⟨w.heap.size, 1, none⟩ = some (.slice A1 l1 k1) := d0.cell 1
  have y1 : w1.cell? ⟨w.heap.size + 1, 1, none⟩ = some (.slice A2 l2 k2) := d1.cell 1
  clear b0 b1 b2 b3 b4 hB0 hb1 d0 d1 HC
  go_wp2_with fail
  go_quiet (fail)
  go_wp2_with fail
  go_loopg [6, 7] ((valL b).toNat + 1) (fun g mv nv wr => ∃ (x y : List Int) (Ax Ay : Option Addr) (nx ny cx cy : Nat), mv = .slice Ax nx cx ∧ nv = .slice Ay ny cy ∧ BigOk wr wr.heap.size false Ax nx cx x ∧ BigOk wr wr.heap.size false Ay ny cy y ∧ (Int.gcd (valL x) (valL y) : Int) = G ∧ g = (valL y).toNat + 1 ∧
    Blk wr (w.heap.size + 2) 27 #[.bool false, .slice none 0 0] ∧ Blk wr (w.heap.size + 3) 32 #[.int .i64 0] ∧ Below w.heap.size w wr)
  case atStart =>
    have hB1 : Below w.heap.size w (w1.drewN nq) := below_drewN HB1.out nq
    exact ⟨a, b, A1, A2, l1, l2, k1, k2, rfl, rfl, (HA.out.below hB1).more hB1.size, (HB.out.below hB1).more hB1.size, HG.out.symm, rfl, D2.out, D3.out, hB1⟩
  case round =>
    clear x1 y1
    obtain ⟨x, y, Ax, Ay, nx, ny, cx, cy, rfl, rfl, hx, hy, hg, rfl, b2, b3, hB⟩ := hrel
    rcases Nat.eq_zero_or_pos ny with rfl | h0
    · have hv : valL y = 0 := hy.zero.2 rfl
      rw [hv, gcd_end _ hx.val] at hg
      have HV := Lib.hid hg
      have htl : tlen x nx = nx := by rw [hx.len]; exact tlen_trim hx.trim
      have HN := Lib.hid (nbig_ok Ax x nx cx hx.len hx.cap hx.most (by have := hx.few; omega) (by rw [htl]; exact hx.few) wr hx.rd)
      rw [htl] at HN
      have HX := Lib.hid hx
      have HB2 := Lib.hid b2
      have HB3 := Lib.hid b3
      have HBB := Lib.hid hB
      have hsz := hB.size
      have g0 : decide ((0 : Int) < ((0 : Nat) : Int)) = false := by decide
      clear hx hy hg hv htl b2 b3 hB HA HB HG D2 D3 HB1
      go_wp2_with fail
      refine HN.out.mono ?_
      rintro e w2 ⟨rfl, hb2⟩
      have c2 := HB2.out.below hb2 HB2.out.lt
      have c3 := HB3.out.below hb2 HB3.out.lt
      have hX2 := (HX.out.below hb2).more hb2.size
      have hB2w := HBB.out.trans (hb2.mono hsz)
      have HX2 := Lib.hid hX2
      have HBW := Lib.hid hB2w
      clear hb2 hX2 hB2w HN
      go_wp2_with (first
        | (refine store_big rfl _ _ rfl c2 false Ax nx cx rfl rfl rfl ?_; intro w8 hD8 hO8 hz8; have e3 : Blk w8 (w.heap.size + 3) 32 #[.int .i64 0] := (hO8.block _ c3.lt (fun e => by have := Option.some.inj e; omega)).trans c3; have f3 := e3.cell 0; have f3z := e3.frozen 0)
        | (refine wpList_skip (by rfl) ?_))
      refine leaves_cons (f := 79) (args := #[.pointer (some ⟨w.heap.size + 3, 0, none⟩)]) (by simp) (by simp [go_sem]) ?_
      refine (ncaught_idle ⟨w.heap.size + 3, 0, none⟩ _).mono ?_
      rintro e u' w'' ⟨rfl, rfl, rfl⟩
      have hD9 : Blk (w8.setCell ⟨w.heap.size + 3, 0, none⟩ (.int .i64 0)) (w.heap.size + 2) 27 #[.bool false, .slice Ax nx cx] := hD8.far (p := ⟨w.heap.size + 3, 0, none⟩) (by show w.heap.size + 2 ≠ w.heap.size + 3; omega) _
      have e9 : Blk (w8.setCell ⟨w.heap.size + 3, 0, none⟩ (.int .i64 0)) (w.heap.size + 3) 32 #[.int .i64 0] := e3.set 0 _
      have hB9 : Below w.heap.size w (w8.setCell ⟨w.heap.size + 3, 0, none⟩ (.int .i64 0)) := (HBW.out.trans (hO8.toBelow HBW.out.size (by omega))).setCell (p := ⟨w.heap.size + 3, 0, none⟩) (by show w.heap.size ≤ w.heap.size + 3; omega) _
      have hX9 : BigOk (w8.setCell ⟨w.heap.size + 3, 0, none⟩ (.int .i64 0)) (w8.setCell ⟨w.heap.size + 3, 0, none⟩ (.int .i64 0)).heap.size false Ax nx cx x := by
        refine HX2.out.rdIn ?_
        have h1 := (mrd_only HX2.out.rd c2 (big_noint _ _ _ _) hO8).more hO8.size
        have h2 := mrd_same h1 e3
        simpa using h2
      generalize w8.setCell ⟨w.heap.size + 3, 0, none⟩ (.int .i64 0) = W9 at hD9 e9 hB9 hX9 ⊢
      have c0 : W9.cell? ⟨w.heap.size + 1 + 1, 0, none⟩ = some (.bool false) := hD9.cell 0
      have c1 : W9.cell? ⟨w.heap.size + 1 + 1, 1, none⟩ = some (.slice Ax nx cx) := hD9.cell 1
      have c4 : W9.cell? ⟨w.heap.size + 1 + 1 + 1, 0, none⟩ = some (.int .i64 0) := e9.cell 0
      simp only [Leaves, settle, results, Tryz.f55]
      simp [go_sem, c0, c1, c4, Result.andThen]
      exact ⟨x, Ax, nx, cx, rfl, HV.out, hX9, hB9⟩
    · have g0 : decide ((0 : Int) < (ny : Int)) = true := decide_eq_true (by omega)
      have g0n : decide (0 < ny) = true := decide_eq_true h0
      have HD := Lib.hid (div_any Ax Ay x y nx ny cx cy wr hx hy h0)
      have hyp := hy.pos h0
      have HG2 := Lib.hid (show (Int.gcd (valL y) (valL x % valL y) : Int) = G by rw [gcd_step _ _ hx.val hyp]; exact hg)
      have HLT := Lib.hid (show (valL x % valL y).toNat + 1 < (valL y).toNat + 1 by
        have := Int.emod_lt_of_pos (valL x) hyp
        have := Int.emod_nonneg (valL x) (show valL y ≠ 0 by omega)
        omega)
      have HX := Lib.hid hx
      have HY := Lib.hid hy
      have HB2 := Lib.hid b2
      have HB3 := Lib.hid b3
      have HBB := Lib.hid hB
      clear hx hy hg b2 b3 hB HA HB HG D2 D3 HB1 hyp
      go_wp2_with fail
      refine HD.out.mono ?_
      rintro e w2 ⟨q, r, Aq, Ar, cq, cr, rfl, hq, hr, hbq, hbr, -, hb2⟩
      obtain ⟨nr, hnr⟩ : ∃ x, x = r.length := ⟨_, rfl⟩
      obtain ⟨nq', hnq⟩ : ∃ x, x = q.length := ⟨_, rfl⟩
      rw [← hnr] at hbr ⊢
      rw [← hnq]
      have HR := Lib.hid hr
      have HBR := Lib.hid hbr
      have HB22 := Lib.hid hb2
      clear hnr hnq hq hr hbq hbr hb2 HD
      go_wp2_with fail
      go_roundg ((valL r).toNat + 1)
      case measure => rw [HR.out]; exact HLT.out
      case rel => exact ⟨y, r, Ay, Ar, ny, nr, cy, cr, rfl, rfl, (HY.out.below HB22.out).more HB22.out.size, HBR.out, by rw [HR.out]; exact HG2.out, rfl, HB2.out.below HB22.out HB2.out.lt, HB3.out.below HB22.out HB3.out.lt, HBB.out.trans (HB22.out.mono HBB.out.size)⟩
end Go.Proofs.YtkkcbkfpaoldmaaGreatDoor

/- Walk: nat.Div of integers that are not negative. -/
namespace Go.Proofs.YtkkcbkfpaoldmaaGreatDoor
open Go Go.RowKit

set_option maxRecDepth 100000 in
set_option linter.unusedSimpArgs false in
theorem ndiv1_idle (p q r : Addr) (u : FrameMode) (w : World) (hp : w.cell? p = some (.int .i64 0)) : CallsD Tryz.prog 119 #[.pointer (some p), .pointer (some q), .pointer (some r)] u w (fun e u' w' => u' = u ∧ (e = .returned (.tuple #[]) ∧ w' = w)) := by
  go_enter_d Tryz.func119, Tryz.ntmps119
  go_wp2_with fail
  go_end0
  exact ⟨rfl, rfl⟩
/-- Quotient and rest, and no error. -/
def DivRes (a b : List Int) (w : World) (e : Ending) (w' : World) : Prop :=
  ∃ (q r : List Int) (Aq Ar : Option Addr) (nq nr cq cr : Nat), e = .returned (.tuple #[.agg #[.bool false, .slice Aq nq cq], .agg #[.bool false, .slice Ar nr cr], .int .i64 0]) ∧ valL q = valL a / valL b ∧ valL r = valL a % valL b ∧
    BigOk w' w'.heap.size false Aq nq cq q ∧ BigOk w' w'.heap.size false Ar nr cr r ∧ (∀ b, Aq = some b → w.heap.size ≤ b.block) ∧ Below w.heap.size w w'
set_option maxRecDepth 100000 in
set_option linter.unusedSimpArgs false in
set_option linter.unusedVariables false in
set_option maxHeartbeats 4000000 in
theorem nDiv_ok (A1 A2 : Option Addr) (l1 k1 l2 k2 : Nat) (a b : List Int) (w : World) (ha : BigOk w w.heap.size false A1 l1 k1 a) (hb : BigOk w w.heap.size false A2 l2 k2 b) (h0 : 0 < l2) :
    Calls Tryz.prog 98 #[.agg #[.bool false, .slice A1 l1 k1], .agg #[.bool false, .slice A2 l2 k2]] w (DivRes a b w) := by
  have HC := Lib.hid (fun W g (hg : Blk W g 27 #[.bool false, .slice A1 l1 k1, .bool false, .slice A2 l2 k2]) (h : Below w.heap.size w W) => ncheck_two false false A1 A2 l1 k1 l2 k2 a b g W hg ((ha.below h).more h.size) ((hb.below h).more h.size))
  have HD := Lib.hid (fun W (h : Below w.heap.size w W) => div_any A1 A2 a b l1 l2 k1 k2 W ((ha.below h).more h.size) ((hb.below h).more h.size) h0)
  have g0 : ((l2 : Int) == 0) = false := beq_eq_false_iff_ne.2 (by omega)
  have g0n : (l2 == 0) = false := beq_eq_false_iff_ne.2 (by omega)
  have g0p : ¬ l2 = 0 := by omega
  clear ha hb
  go_enter_defers Tryz.func98, Tryz.ntmps98
  go_wp2_with fail
  refine calls_gen (fun W => Blk W w.heap.size 27 #[.bool false, .slice A1 l1 k1] ∧ Blk W (w.heap.size + 1) 27 #[.bool false, .slice A2 l2 k2] ∧ Blk W (w.heap.size + 2) 27 #[.bool false, .slice none 0 0] ∧ Blk W (w.heap.size + 3) 27 #[.bool false, .slice none 0 0] ∧ Blk W (w.heap.size + 4) 32 #[.int .i64 0] ∧ Blk W (w.heap.size + 5) 27 #[.bool false, .slice A1 l1 k1, .bool false, .slice A2 l2 k2] ∧ Below w.heap.size w W)
    ⟨(((((Blk.new w _ _).alloc _).alloc _).alloc _).alloc _).alloc _, ((((Blk.new' _ _ _ (by simp)).alloc _).alloc _).alloc _).alloc _, (((Blk.new' _ _ _ (by simp)).alloc _).alloc _).alloc _, ((Blk.new' _ _ _ (by simp)).alloc _).alloc _, (Blk.new' _ _ _ (by simp)).alloc _, Blk.new' _ _ _ (by simp), ((((((Below.refl _ w).alloc (Nat.le_refl _) _).alloc (by simp) _).alloc (by simp; omega) _).alloc (by simp; omega) _).alloc (by simp; omega) _).alloc (by simp; omega) _⟩ (fun W0 ⟨b0, b1, b2, b3, b4, b5, hB0⟩ => ?_)
  refine (HC.out W0 _ b5 hB0).mono ?_
  rintro e w1 ⟨rfl, hb1⟩
  have D0 := Lib.hid (b0.below hb1 b0.lt)
  have D1 := Lib.hid (b1.below hb1 b1.lt)
  have D2 := Lib.hid (b2.below hb1 b2.lt)
  have D3 := Lib.hid (b3.below hb1 b3.lt)
  have D4 := Lib.hid (b4.below hb1 b4.lt)
  have HB1 := Lib.hid (hB0.trans (hb1.mono hB0.size))
  have x1 : w1.cell? ⟨w.heap.size, 1, none⟩ = some (.slice A1 l1 k1) := D0.out.cell 1
  have y1 : w1.cell? ⟨w.heap.size + 1, 1, none⟩ = some (.slice A2 l2 k2) := D1.out.cell 1
  clear b0 b1 b2 b3 b4 b5 hB0 hb1 HC
  go_wp2_with fail
  refine (HD.out w1 HB1.out).mono ?_
  rintro e w2 ⟨q, r, Aq, Ar, cq, cr, rfl, hq, hr, hbq, hbr, hfq, hb2⟩
  obtain ⟨nr, hnr⟩ : ∃ x, x = r.length := ⟨_, rfl⟩
  obtain ⟨nq, hnq⟩ : ∃ x, x = q.length := ⟨_, rfl⟩
  rw [← hnr] at hbr ⊢
  rw [← hnq] at hbq ⊢
  have HFQ := Lib.hid (fun b (e : Aq = some b) => Nat.le_trans HB1.out.size (hfq b e))
  clear hfq
  have HQV := Lib.hid hq
  have HRV := Lib.hid hr
  have HBQ := Lib.hid hbq
  have HBR := Lib.hid hbr
  have HB2 := Lib.hid (HB1.out.trans (hb2.mono HB1.out.size))
  have e0 := D0.out.below hb2 D0.out.lt
  have e1 := D1.out.below hb2 D1.out.lt
  have E2 := Lib.hid (D2.out.below hb2 D2.out.lt)
  have E3 := Lib.hid (D3.out.below hb2 D3.out.lt)
  have E4 := Lib.hid (D4.out.below hb2 D4.out.lt)
  have x0 : w2.cell? ⟨w.heap.size, 0, none⟩ = some (.bool false) := e0.cell 0
  have y0 : w2.cell? ⟨w.heap.size + 1, 0, none⟩ = some (.bool false) := e1.cell 0
  have HN1 := Lib.hid (fun W (h : Below w2.heap.size w2 W) => nbig_ok Aq q nq cq hbq.len hbq.cap hbq.most (by have := hbq.few; omega) (by rw [hbq.len, tlen_trim hbq.trim, ← hbq.len]; exact hbq.few) W ((hbq.below h).more h.size).rd)
  have HN2 := Lib.hid (fun W (h : Below w2.heap.size w2 W) => nbig_ok Ar r nr cr hbr.len hbr.cap hbr.most (by have := hbr.few; omega) (by rw [hbr.len, tlen_trim hbr.trim, ← hbr.len]; exact hbr.few) W ((hbr.below h).more h.size).rd)
  rw [show tlen q nq = nq by rw [hbq.len]; exact tlen_trim hbq.trim] at HN1
  rw [show tlen r nr = nr by rw [hbr.len]; exact tlen_trim hbr.trim] at HN2
  clear x1 y1 D0 D1 D2 D3 D4 HB1 hb2 hbq hbr hq hr hnq hnr HD e0 e1
  go_wp2_with fail
  refine (HN1.out _ (Below.refl _ _)).mono ?_
  rintro e w3 ⟨rfl, hb3⟩
  have HB3 := Lib.hid hb3
  clear hb3 x0 y0
  go_wp2_with fail
  refine (HN2.out _ HB3.out).mono ?_
  rintro e w4 ⟨rfl, hb4⟩
  have hb24 := HB3.out.trans (hb4.mono HB3.out.size)
  have f2 := E2.out.below hb24 E2.out.lt
  have F3 := Lib.hid (E3.out.below hb24 E3.out.lt)
  have F4 := Lib.hid (E4.out.below hb24 E4.out.lt)
  have HQ4 := Lib.hid ((HBQ.out.below hb24).more hb24.size)
  have HR4 := Lib.hid ((HBR.out.below hb24).more hb24.size)
  have HB4 := Lib.hid (HB2.out.trans (hb24.mono HB2.out.size))
  clear hb4 hb24 HB3 E2 E3 E4 HBQ HBR HB2 HN1 HN2
  go_wp2_with (first
    | (refine store_big rfl _ _ rfl f2 false Aq nq cq rfl rfl rfl ?_; intro w5 hD5 hO5 hz5; have g3 : Blk w5 (w.heap.size + 3) 27 #[.bool false, .slice none 0 0] := (hO5.block _ F3.out.lt (fun e => by have := Option.some.inj e; omega)).trans F3.out; have G4 := Lib.hid (show Blk w5 (w.heap.size + 4) 32 #[.int .i64 0] from (hO5.block _ F4.out.lt (fun e => by have := Option.some.inj e; omega)).trans F4.out); have HQ5 := Lib.hid ((mrd_only HQ4.out.rd f2 (big_noint _ _ _ _) hO5).more hO5.size); have HR5 := Lib.hid ((mrd_only HR4.out.rd f2 (big_noint _ _ _ _) hO5).more hO5.size); have HB5 := Lib.hid (HB4.out.trans (hO5.toBelow HB4.out.size (by omega))); have HD5 := Lib.hid hD5; clear hD5 hO5 hz5 f2 F3)
    | (refine store_big rfl _ _ rfl g3 false Ar nr cr rfl rfl rfl ?_; intro w6 hD6 hO6 hz6; have g4 : Blk w6 (w.heap.size + 4) 32 #[.int .i64 0] := (hO6.block _ G4.out.lt (fun e => by have := Option.some.inj e; omega)).trans G4.out; have H2 := Lib.hid (show Blk w6 (w.heap.size + 2) 27 #[.bool false, .slice Aq nq cq] from (hO6.block _ HD5.out.lt (fun e => by have := Option.some.inj e; omega)).trans HD5.out); have HQ6 := Lib.hid ((mrd_only HQ5.out g3 (big_noint _ _ _ _) hO6).more hO6.size); have HR6 := Lib.hid ((mrd_only HR5.out g3 (big_noint _ _ _ _) hO6).more hO6.size); have HB6 := Lib.hid (HB5.out.trans (hO6.toBelow HB5.out.size (by omega))); have HD6 := Lib.hid hD6; have z4 := g4.cell 0; have z4f := g4.frozen 0; clear hD6 hO6 hz6 g3)
    | (refine wpList_skip (by rfl) ?_))
  refine leaves_cons (f := 79) (args := #[.pointer (some ⟨w.heap.size + 4, 0, none⟩)]) (by simp) (by simp [go_sem]) ?_
  refine (ncaught_idle ⟨w.heap.size + 4, 0, none⟩ _).mono ?_
  rintro e u' w'' ⟨rfl, rfl, rfl⟩
  have hD2 : Blk (w6.setCell ⟨w.heap.size + 4, 0, none⟩ (.int .i64 0)) (w.heap.size + 2) 27 #[.bool false, .slice Aq nq cq] := H2.out.far (p := ⟨w.heap.size + 4, 0, none⟩) (by show w.heap.size + 2 ≠ w.heap.size + 4; omega) _
  have hD3 : Blk (w6.setCell ⟨w.heap.size + 4, 0, none⟩ (.int .i64 0)) (w.heap.size + 3) 27 #[.bool false, .slice Ar nr cr] := HD6.out.far (p := ⟨w.heap.size + 4, 0, none⟩) (by show w.heap.size + 3 ≠ w.heap.size + 4; omega) _
  have hD4 : Blk (w6.setCell ⟨w.heap.size + 4, 0, none⟩ (.int .i64 0)) (w.heap.size + 4) 32 #[.int .i64 0] := g4.set 0 _
  have hB9 : Below w.heap.size w (w6.setCell ⟨w.heap.size + 4, 0, none⟩ (.int .i64 0)) := HB6.out.setCell (p := ⟨w.heap.size + 4, 0, none⟩) (by show w.heap.size ≤ w.heap.size + 4; omega) _
  have hQ9 : BigOk (w6.setCell ⟨w.heap.size + 4, 0, none⟩ (.int .i64 0)) (w6.setCell ⟨w.heap.size + 4, 0, none⟩ (.int .i64 0)).heap.size false Aq nq cq q := HQ4.out.rdIn (by simpa using mrd_same HQ6.out g4)
  have hR9 : BigOk (w6.setCell ⟨w.heap.size + 4, 0, none⟩ (.int .i64 0)) (w6.setCell ⟨w.heap.size + 4, 0, none⟩ (.int .i64 0)).heap.size false Ar nr cr r := HR4.out.rdIn (by simpa using mrd_same HR6.out g4)
  generalize w6.setCell ⟨w.heap.size + 4, 0, none⟩ (.int .i64 0) = W9 at hD2 hD3 hD4 hB9 hQ9 hR9 ⊢
  have c2 : W9.cell? ⟨w.heap.size + 1 + 1, 0, none⟩ = some (.bool false) := hD2.cell 0
  have c3 : W9.cell? ⟨w.heap.size + 1 + 1, 1, none⟩ = some (.slice Aq nq cq) := hD2.cell 1
  have c4 : W9.cell? ⟨w.heap.size + 1 + 1 + 1, 0, none⟩ = some (.bool false) := hD3.cell 0
  have c5 : W9.cell? ⟨w.heap.size + 1 + 1 + 1, 1, none⟩ = some (.slice Ar nr cr) := hD3.cell 1
  have c6 : W9.cell? ⟨w.heap.size + 1 + 1 + 1 + 1, 0, none⟩ = some (.int .i64 0) := hD4.cell 0
  refine leaves_cons (f := 119) (args := #[.pointer (some ⟨w.heap.size + 4, 0, none⟩), .pointer (some ⟨w.heap.size + 2, 0, none⟩), .pointer (some ⟨w.heap.size + 3, 0, none⟩)]) (by simp [settle]) (by simp [go_sem]) ?_
  refine (ndiv1_idle ⟨w.heap.size + 4, 0, none⟩ _ _ _ _ c6).mono ?_
  rintro e u' w'' ⟨rfl, rfl, rfl⟩
  simp only [Leaves, settle, results, Tryz.f98]
  simp [go_sem, c2, c3, c4, c5, c6, Result.andThen]
  exact ⟨q, r, Aq, Ar, nq, nr, cq, cr, rfl, HQV.out, HRV.out, hQ9, hR9, HFQ.out, hB9⟩
end Go.Proofs.YtkkcbkfpaoldmaaGreatDoor

/- Walk: ratio.Check of a valid ratio, and of one whose denominator is 0. -/
namespace Go.Proofs.YtkkcbkfpaoldmaaGreatDoor
open Go Go.RowKit

/-- The cells of a ratio that is not negative. -/
abbrev ratC (A1 : Option Addr) (n1 c1 : Nat) (A2 : Option Addr) (n2 c2 : Nat) : Array Value := #[.bool false, .slice A1 n1 c1, .bool false, .slice A2 n2 c2]
/-- A valid ratio that is not negative. -/
structure RatOk (w : World) (B : Nat) (A1 : Option Addr) (n1 c1 : Nat) (A2 : Option Addr) (n2 c2 : Nat) (p q : List Int) : Prop where
  num : BigOk w B false A1 n1 c1 p
  den : BigOk w B false A2 n2 c2 q
  pos : 0 < n2
  low : Int.gcd (valL p) (valL q) = 1
theorem RatOk.below {w w' : World} {B : Nat} {A1 A2 : Option Addr} {n1 c1 n2 c2 : Nat} {p q : List Int} (h : RatOk w B A1 n1 c1 A2 n2 c2 p q) (hb : Below B w w') : RatOk w' B A1 n1 c1 A2 n2 c2 p q := { h with num := h.num.below hb, den := h.den.below hb }
theorem RatOk.more {w : World} {B B' : Nat} {A1 A2 : Option Addr} {n1 c1 n2 c2 : Nat} {p q : List Int} (h : RatOk w B A1 n1 c1 A2 n2 c2 p q) (hb : B ≤ B') : RatOk w B' A1 n1 c1 A2 n2 c2 p q := { h with num := h.num.more hb, den := h.den.more hb }
theorem one_list {w : World} {B : Nat} {neg : Bool} {A : Option Addr} {n c : Nat} {l : List Int} (h : BigOk w B neg A n c l) (hv : valL l = 1) : n = 1 ∧ l = [1] := by
  have e : l = [1] := valL_inj h.dig (fun x hx => by rw [List.mem_singleton.1 hx]; omega) h.trim (fun _ => by show (1 : Int) ≠ 0; omega) (by rw [hv, valL_one])
  exact ⟨by rw [h.len, e]; rfl, e⟩
set_option maxRecDepth 100000 in
set_option linter.unusedSimpArgs false in
set_option linter.unusedVariables false in
set_option maxHeartbeats 4000000 in
theorem qCheck_ok (A1 A2 : Option Addr) (n1 c1 n2 c2 : Nat) (p q : List Int) (w : World) (h : RatOk w w.heap.size A1 n1 c1 A2 n2 c2 p q) : Calls Tryz.prog 21 #[.agg (ratC A1 n1 c1 A2 n2 c2)] w (Ret (.int .i64 0) w) := by
  have HC1 := Lib.hid (fun W (hb : Below w.heap.size w W) => nCheck_ok false A1 n1 c1 p W ((h.num.below hb).more hb.size))
  have HC2 := Lib.hid (fun W (hb : Below w.heap.size w W) => nCheck_ok false A2 n2 c2 q W ((h.den.below hb).more hb.size))
  unfold bigV at HC1 HC2
  have HP := Lib.hid (fun W => qpositive_ok A2 n2 c2 h.pos W)
  have HG := Lib.hid (fun W (hb : Below w.heap.size w W) => nGcd_ok A1 A2 n1 c1 n2 c2 p q W ((h.num.below hb).more hb.size) ((h.den.below hb).more hb.size))
  rw [show ((Int.gcd (valL p) (valL q) : Nat) : Int) = 1 by rw [h.low]; rfl] at HG
  clear h
  go_enter Tryz.func21, Tryz.ntmps21
  go_wp2_with fail
  refine calls_gen (fun W => Blk W w.heap.size 29 (ratC A1 n1 c1 A2 n2 c2) ∧ Below w.heap.size w W) ⟨Blk.new w _ _, (Below.refl _ w).alloc (Nat.le_refl _) _⟩ (fun W0 ⟨b0, hB0⟩ => ?_)
  refine (HC1.out W0 hB0).mono ?_
  rintro e w1 ⟨rfl, hb1⟩
  have d0 := b0.below hb1 b0.lt
  have HB1 := Lib.hid (hB0.trans (hb1.mono hB0.size))
  have k0 : w1.cell? ⟨w.heap.size, 0, none⟩ = some (.bool false) := d0.cell 0
  have k1 : w1.cell? ⟨w.heap.size, 1, none⟩ = some (.slice A1 n1 c1) := d0.cell 1
  have k2 : w1.cell? ⟨w.heap.size, 2, none⟩ = some (.bool false) := d0.cell 2
  have k3 : w1.cell? ⟨w.heap.size, 3, none⟩ = some (.slice A2 n2 c2) := d0.cell 3
  clear hb1 b0 hB0
  go_wp2_with fail
  refine (HC2.out w1 HB1.out).mono ?_
  rintro e w2 ⟨rfl, hb2⟩
  have d2 := d0.below hb2 d0.lt
  have HB2 := Lib.hid (HB1.out.trans (hb2.mono HB1.out.size))
  clear k0 k1 k2 k3 hb2 d0 HB1
  have k2 : w2.cell? ⟨w.heap.size, 2, none⟩ = some (.bool false) := d2.cell 2
  have k3 : w2.cell? ⟨w.heap.size, 3, none⟩ = some (.slice A2 n2 c2) := d2.cell 3
  go_wp2_with fail
  refine (HP.out w2).mono ?_
  rintro e w3 ⟨rfl, hb3⟩
  have d3 := d2.below hb3 d2.lt
  have HB3 := Lib.hid (HB2.out.trans (hb3.mono HB2.out.size))
  clear k2 k3 hb3 d2 HB2
  have k0 : w3.cell? ⟨w.heap.size, 0, none⟩ = some (.bool false) := d3.cell 0
  have k1 : w3.cell? ⟨w.heap.size, 1, none⟩ = some (.slice A1 n1 c1) := d3.cell 1
  have k2 : w3.cell? ⟨w.heap.size, 2, none⟩ = some (.bool false) := d3.cell 2
  have k3 : w3.cell? ⟨w.heap.size, 3, none⟩ = some (.slice A2 n2 c2) := d3.cell 3
  go_wp2_with fail
  refine (HG.out w3 HB3.out).mono ?_
  rintro e w4 ⟨g, Ag, ng, cg, rfl, hgv, hg, hb4⟩
  obtain ⟨rfl, rfl⟩ := one_list hg hgv
  have HB4 := Lib.hid (HB3.out.trans (hb4.mono HB3.out.size))
  obtain ⟨bb, ob, rfl, hbb, hcb⟩ := hg.rd.at_ (k := 0) (by simp)
  have hcb0 : w4.cell? ⟨bb, ob, none⟩ = some (.int .i64 1) := hcb
  clear k0 k1 k2 k3 hb4 d3 HB3 hgv hg hcb HC1 HC2 HP HG
  have hca := World.cell?_alloc_lt w4 (.cells #[.bool false, .slice (some ⟨bb, ob, none⟩) 1 cg] 27) ⟨bb, ob, none⟩ hbb
  go_wp2_with fail
  go_ret
  exact ⟨rfl, HB4.out.alloc HB4.out.size _⟩
set_option maxRecDepth 100000 in
set_option linter.unusedSimpArgs false in
theorem qpositive_no (w : World) : Calls Tryz.prog 54 #[.agg #[.bool false, .slice none 0 0]] w (Ret (.bool false) w) := by
  go_enter Tryz.func54, Tryz.ntmps54
  go_wp2_with fail
  go_ret
  exact ⟨rfl, (Below.refl _ w).alloc (Nat.le_refl _) _⟩
set_option maxRecDepth 100000 in
set_option linter.unusedSimpArgs false in
set_option linter.unusedVariables false in
set_option maxHeartbeats 4000000 in
theorem qCheck_zero (w : World) : Calls Tryz.prog 21 #[.agg (ratC none 0 0 none 0 0)] w (Ret (.int .i64 100) w) := by
  have HC := Lib.hid (fun W => nCheck_ok false none 0 0 [] W (bigOk_nil W _))
  unfold bigV at HC
  go_enter Tryz.func21, Tryz.ntmps21
  go_wp2_with fail
  refine calls_gen (fun W => Blk W w.heap.size 29 (ratC none 0 0 none 0 0) ∧ Below w.heap.size w W) ⟨Blk.new w _ _, (Below.refl _ w).alloc (Nat.le_refl _) _⟩ (fun W0 ⟨b0, hB0⟩ => ?_)
  refine (HC.out W0).mono ?_
  rintro e w1 ⟨rfl, hb1⟩
  have d0 := b0.below hb1 b0.lt
  have HB1 := Lib.hid (hB0.trans (hb1.mono hB0.size))
  have k2 : w1.cell? ⟨w.heap.size, 2, none⟩ = some (.bool false) := d0.cell 2
  have k3 : w1.cell? ⟨w.heap.size, 3, none⟩ = some (.slice none 0 0) := d0.cell 3
  clear hb1 b0 hB0
  go_wp2_with fail
  refine (HC.out w1).mono ?_
  rintro e w2 ⟨rfl, hb2⟩
  have d2 := d0.below hb2 d0.lt
  have HB2 := Lib.hid (HB1.out.trans (hb2.mono HB1.out.size))
  clear k2 k3 hb2 d0 HB1
  have k2 : w2.cell? ⟨w.heap.size, 2, none⟩ = some (.bool false) := d2.cell 2
  have k3 : w2.cell? ⟨w.heap.size, 3, none⟩ = some (.slice none 0 0) := d2.cell 3
  go_wp2_with fail
  refine (qpositive_no w2).mono ?_
  rintro e w3 ⟨rfl, hb3⟩
  have HB3 := Lib.hid (HB2.out.trans (hb3.mono HB2.out.size))
  clear k2 k3 hb3 d2 HB2
  go_wp2_with fail
  go_ret
  exact ⟨rfl, HB3.out⟩
end Go.Proofs.YtkkcbkfpaoldmaaGreatDoor

/- Walk: ratio.valid of two valid ratios. -/
namespace Go.Proofs.YtkkcbkfpaoldmaaGreatDoor
open Go Go.RowKit

set_option maxRecDepth 100000 in
set_option linter.unusedSimpArgs false in
set_option linter.unusedVariables false in
set_option maxHeartbeats 4000000 in
theorem qvalid_two (A1 A2 A3 A4 : Option Addr) (n1 c1 n2 c2 n3 c3 n4 c4 : Nat) (p q p2 q2 : List Int) (g : Nat) (w : World) (hg : Blk w g 29 (ratC A1 n1 c1 A2 n2 c2 ++ ratC A3 n3 c3 A4 n4 c4))
    (ha : RatOk w w.heap.size A1 n1 c1 A2 n2 c2 p q) (hb : RatOk w w.heap.size A3 n3 c3 A4 n4 c4 p2 q2) :
    Calls Tryz.prog 48 #[.slice (some ⟨g, 0, none⟩) 2 2] w (Ret (.tuple #[]) w) := by
  have HG := Lib.hid hg
  have HA := Lib.hid (fun W (h : Below w.heap.size w W) => qCheck_ok A1 A2 n1 c1 n2 c2 p q W ((ha.below h).more h.size))
  have HB := Lib.hid (fun W (h : Below w.heap.size w W) => qCheck_ok A3 A4 n3 c3 n4 c4 p2 q2 W ((hb.below h).more h.size))
  clear hg ha hb
  go_enter Tryz.func48, Tryz.ntmps48
  go_wp2_with fail
  go_loopw [6] (fun i wr => ∃ k : Nat, k ≤ 2 ∧ i = .int .i64 k ∧ Below w.heap.size w wr) (fun i _ => 2 - (intOf i).toNat)
  case atStart => exact ⟨0, by omega, rfl, Below.refl _ _⟩
  case round =>
    obtain ⟨k, hk, rfl, hB⟩ := hrel
    have hd := HG.out.below hB HG.out.lt
    have k0 : wr.cell? ⟨g, 0, none⟩ = some (.bool false) := hd.cell 0
    have k1 : wr.cell? ⟨g, 1, none⟩ = some (.slice A1 n1 c1) := hd.cell 1
    have k2 : wr.cell? ⟨g, 2, none⟩ = some (.bool false) := hd.cell 2
    have k3 : wr.cell? ⟨g, 3, none⟩ = some (.slice A2 n2 c2) := hd.cell 3
    have k4 : wr.cell? ⟨g, 4, none⟩ = some (.bool false) := hd.cell 4
    have k5 : wr.cell? ⟨g, 5, none⟩ = some (.slice A3 n3 c3) := hd.cell 5
    have k6 : wr.cell? ⟨g, 6, none⟩ = some (.bool false) := hd.cell 6
    have k7 : wr.cell? ⟨g, 7, none⟩ = some (.slice A4 n4 c4) := hd.cell 7
    have HBB := Lib.hid hB
    clear hd hB
    rcases k with _ | _ | k
    · go_wp2_with fail
      refine (HA.out _ (HBB.out.alloc HBB.out.size _)).mono ?_
      rintro e w6 ⟨rfl, hb6⟩
      go_wp2_with fail
      refine (qneed_ok 100 w6).mono ?_
      rintro e w7 ⟨rfl, rfl⟩
      go_wp2_with fail
      go_roundw
      case rel => exact ⟨1, by omega, by go_num, (HBB.out.alloc HBB.out.size _).trans (hb6.mono (HBB.out.alloc HBB.out.size _).size)⟩
      case measure => simp [intOf]
    · go_wp2_with fail
      refine (HB.out _ (HBB.out.alloc HBB.out.size _)).mono ?_
      rintro e w6 ⟨rfl, hb6⟩
      go_wp2_with fail
      refine (qneed_ok 100 w6).mono ?_
      rintro e w7 ⟨rfl, rfl⟩
      go_wp2_with fail
      go_roundw
      case rel => exact ⟨2, by omega, by go_num, (HBB.out.alloc HBB.out.size _).trans (hb6.mono (HBB.out.alloc HBB.out.size _).size)⟩
      case measure => simp [intOf]
    · obtain rfl : k = 0 := by omega
      go_wp2_with fail
      go_end0
      exact ⟨rfl, HBB.out⟩
end Go.Proofs.YtkkcbkfpaoldmaaGreatDoor

/- Walk: ratio.products of four integers that are not negative. -/
namespace Go.Proofs.YtkkcbkfpaoldmaaGreatDoor
open Go Go.RowKit

theorem bgInfo_all : ∃ i, Tryz.prog.info? 27 = some i ∧ i.zero = some (.agg #[.bool false, .slice none 0 0]) ∧ i.size = 2 ∧ i.bytes = 32 := by
  have h : (Tryz.prog.info? 27).map (fun i => (i.zero, i.size, i.bytes)) = some (some (.agg #[.bool false, .slice none 0 0]), 2, 32) := by kernel_rfl
  obtain ⟨i, hi, h0, h1, h2⟩ := info_parts h
  exact ⟨i, hi, h0, h1, h2⟩
noncomputable def bgInfo : TypeInfo := bgInfo_all.choose
theorem bgInfo_eq : Tryz.prog.info? 27 = some bgInfo := bgInfo_all.choose_spec.1
theorem bgInfo_zero : bgInfo.zero = some (.agg #[.bool false, .slice none 0 0]) := bgInfo_all.choose_spec.2.1
theorem bgInfo_size : bgInfo.size = 2 := bgInfo_all.choose_spec.2.2.1
theorem bgInfo_bytes : bgInfo.bytes = 32 := bgInfo_all.choose_spec.2.2.2
/-- A row of integers of the call's own. -/
def BgOwn (w : World) (base : Nat) (v : Value) (n : Nat) (cs : List Value) : Prop := w.ownsRow base 27 2 v n cs
theorem BgOwn.below {w w' : World} {base : Nat} {v : Value} {n : Nat} {cs : List Value} (h : BgOwn w base v n cs) (hb : Below w.heap.size w w') : BgOwn w' base v n cs :=
  World.ownsRow.kept h (row := none) ⟨hb.os, hb.tape, hb.output, hb.size, fun i hi _ => hb.block i hi⟩ (by cases v.ownBlock <;> simp)
theorem BgOwn.base {w : World} {B B' : Nat} {v : Value} {n : Nat} {cs : List Value} (h : BgOwn w B v n cs) (hB : B' ≤ B) : BgOwn w B' v n cs := by
  refine ⟨h.1, ?_⟩
  rcases h.2 with h2 | ⟨g, cap, cur, e, hb, h3⟩
  · exact .inl h2
  · exact .inr ⟨g, cap, cur, e, by omega, h3⟩
theorem BgOwn.shape {w : World} {base : Nat} {v : Value} {n : Nat} {cs : List Value} (h : BgOwn w base v n cs) (h0 : 0 < n) : ∃ g c, v = .slice (some ⟨g, 0, none⟩) n c ∧ base ≤ g ∧ g < w.heap.size ∧ n ≤ c ∧ c ≤ 9223372036854775807 ∧ ∀ (j : Nat) u, cs[j]? = some u → w.cell? ⟨g, j, none⟩ = some u := by
  rcases h.2 with ⟨-, e⟩ | ⟨g, cap, cur, rfl, hb, hg, hnc, hcm, -⟩
  · omega
  · refine ⟨g, cap, rfl, hb, (Array.getElem?_eq_some_iff.1 hg).1, hnc, by simp only [maxLen] at hcm; omega, fun j u hu => ?_⟩
    have := World.ownsRow.cells h (g := g) rfl j u hu
    rwa [Addr.add_mid, Nat.zero_add] at this
theorem wp_app_big {o : Oper} {a : Act} {Q : Exit → Act → World → Prop} {K : Act → World → Prop} (s x : Operand) (ho : o.op = .call { callee := .builtin .append, args := #[s, x], argTypes := #[103, 103] })
    (base : Nat) {w : World} (v : Value) (n : Nat) (cs : List Value) (hs : a.eval s = v) (hown : BgOwn w base v n cs) (A : Option Addr) (m c : Nat) {g : Nat} {t : TypeId} (hg : Blk w g t #[.bool false, .slice A m c])
    (hx : a.eval x = .slice (some ⟨g, 0, none⟩) 1 1) (h47 : n ≤ 1000) (hbase : base ≤ w.heap.size)
    (h : ∀ v' w', BgOwn w' base v' (n + 1) (cs ++ [.bool false, .slice A m c]) → Grew w w' v v' → K (a.put o.dst v') w') : Oper.wp Tryz.prog o a w K Q := by
  have hR : Rd w w.heap.size (some ⟨g, 0, none⟩) (1 * 2) (fun k => if k = 0 then .bool false else .slice A m c) := Rd.of_blk hg hg.lt fun k hk => by
    rcases k with _ | _ | k <;> first | rfl | omega
  have hsrc := src_rd (P := Tryz.prog) w (size := 2) (tx := 103) (n := 1) (c := 1) Tryz.underlying103 hR (by omega) (fun k hk => by
    rcases k with _ | _ | k <;> first | rfl | omega)
  obtain ⟨v', w', hrun, h2, h3⟩ := run_append_own_src (P := Tryz.prog) w base 103 103 o.type 27 bgInfo (.agg #[.bool false, .slice none 0 0]) 2 32 Tryz.underlying103 bgInfo_eq bgInfo_zero bgInfo_size bgInfo_bytes rfl v n cs hown _ 1 [.bool false, .slice A m c] hsrc (by simp only [maxLen]; omega) (by omega) hbase
  unfold Oper.wp execOp
  simp only [ho, resolve, invoke, builtin, Sem.run_bind, Sem.run_pure, Result.andThen_ok, List.map_toArray, List.map_cons, List.map_nil, hs, hx, hrun]
  exact h v' w' h2 h3
/-- Two products in a row. -/
def ProdPost (u v : Int) (w : World) (e : Ending) (w' : World) : Prop :=
  ∃ (l m : List Int) (A B : Option Addr) (nl nm cl cm G cap : Nat), e = .returned (.slice (some ⟨G, 0, none⟩) 2 cap) ∧ valL l = u ∧ valL m = v ∧ BigOk w' w'.heap.size false A nl cl l ∧ BigOk w' w'.heap.size false B nm cm m ∧
    (w'.cell? ⟨G, 0, none⟩ = some (.bool false) ∧ w'.cell? ⟨G, 1, none⟩ = some (.slice A nl cl) ∧ w'.cell? ⟨G, 2, none⟩ = some (.bool false) ∧ w'.cell? ⟨G, 3, none⟩ = some (.slice B nm cm)) ∧ (w.heap.size ≤ G ∧ G < w'.heap.size) ∧ Below w.heap.size w w'
/-- After the first round. -/
def ProdOne (w : World) (u : Int) (v : Value) (wr : World) : Prop :=
  ∃ (l : List Int) (A : Option Addr) (n c B : Nat), valL l = u ∧ BigOk wr B false A n c l ∧ BgOwn wr B v 1 [.bool false, .slice A n c] ∧ B ≤ wr.heap.size ∧ w.heap.size ≤ B ∧ Below w.heap.size w wr
set_option maxRecDepth 100000 in
set_option linter.unusedSimpArgs false in
set_option linter.unusedVariables false in
set_option maxHeartbeats 8000000 in
theorem qproducts_four (A0 A1 A2 A3 : Option Addr) (n0 n1 n2 n3 c0 c1 c2 c3 : Nat) (x0 x1 x2 x3 : List Int) (g : Nat) (w : World) (hg : Blk w g 27 #[.bool false, .slice A0 n0 c0, .bool false, .slice A1 n1 c1, .bool false, .slice A2 n2 c2, .bool false, .slice A3 n3 c3])
    (h0 : BigOk w w.heap.size false A0 n0 c0 x0) (h1 : BigOk w w.heap.size false A1 n1 c1 x1) (h2 : BigOk w w.heap.size false A2 n2 c2 x2) (h3 : BigOk w w.heap.size false A3 n3 c3 x3) (hl1 : n0 + n1 ≤ 2048) (hl2 : n2 + n3 ≤ 2048) :
    Calls Tryz.prog 49 #[.slice (some ⟨g, 0, none⟩) 4 4] w (ProdPost (valL x0 * valL x1) (valL x2 * valL x3) w) := by
  have HG := Lib.hid hg
  have HM1 := Lib.hid (fun W (h : Below w.heap.size w W) => nMul_ok A0 A1 n0 c0 n1 c1 x0 x1 W ((h0.below h).more h.size) ((h1.below h).more h.size) hl1)
  have HM2 := Lib.hid (fun W (h : Below w.heap.size w W) => nMul_ok A2 A3 n2 c2 n3 c3 x2 x3 W ((h2.below h).more h.size) ((h3.below h).more h.size) hl2)
  obtain ⟨V1, hV1⟩ : ∃ x, x = valL x0 * valL x1 := ⟨_, rfl⟩
  obtain ⟨V2, hV2⟩ : ∃ x, x = valL x2 * valL x3 := ⟨_, rfl⟩
  rw [← hV1] at HM1 ⊢
  rw [← hV2] at HM2 ⊢
  clear hg h0 h1 h2 h3 hV1 hV2
  go_enter Tryz.func49, Tryz.ntmps49
  go_wp2_with fail
  go_loopw [3, 2] (fun i v wr => (i = .int .i64 0 ∧ v = .slice none 0 0 ∧ wr = w) ∨ (i = .int .i64 2 ∧ ProdOne w V1 v wr) ∨ (i = .int .i64 4 ∧ ProdPost V1 V2 w (.returned v) wr)) (fun i _ _ => 4 - (intOf i).toNat)
  case atStart => exact .inl ⟨rfl, rfl, rfl⟩
  case round =>
    rcases hrel with ⟨rfl, rfl, rfl⟩ | ⟨rfl, h⟩ | ⟨rfl, h⟩
    · have HST := Lib.hid (fun W' => (show Blk W' g 27 #[.bool false, .slice A0 n0 c0, .bool false, .slice A1 n1 c1, .bool false, .slice A2 n2 c2, .bool false, .slice A3 n3 c3] ∧ Below wr.heap.size wr W' → W'.cell? ⟨g, 0, none⟩ = some (.bool false) ∧ W'.cell? ⟨g, 1, none⟩ = some (.slice A0 n0 c0) ∧ W'.cell? ⟨g, 2, none⟩ = some (.bool false) ∧ W'.cell? ⟨g, 3, none⟩ = some (.slice A1 n1 c1) from fun h => ⟨h.1.cell 0, h.1.cell 1, h.1.cell 2, h.1.cell 3⟩))
      go_wp2_with fail
      refine wp_region_held_drew (S := fun W' => Blk W' g 27 #[.bool false, .slice A0 n0 c0, .bool false, .slice A1 n1 c1, .bool false, .slice A2 n2 c2, .bool false, .slice A3 n3 c3] ∧ Below wr.heap.size wr W') (by kernel_rfl) ⟨HG.out.drew, (Below.refl _ _).drew⟩ (fun hS => ?_)
      refine wpAnyH_take (i := 0) (v := .slice none 0 0) rfl (by kernel_rfl) (by kernel_rfl) (by kernel_rfl) (fun _ _ _ h => h) (Or.inl ⟨by rfl, fun W' hS' => by go_simp⟩) hS ?_
      simp only [Act.put, List.getElem_toArray, List.getElem_cons_zero, List.getElem_cons_succ, List.setIfInBounds_toArray, List.set_cons_zero, List.set_cons_succ]
      refine wpAnyH_take (i := 1) (v := .slice (some ⟨g, 0, none⟩) 4 4) rfl (by kernel_rfl) (by kernel_rfl) (by kernel_rfl) (fun _ _ _ h => h) (Or.inl ⟨by rfl, fun W' hS' => by go_simp⟩) hS ?_
      simp only [Act.put, List.getElem_toArray, List.getElem_cons_zero, List.getElem_cons_succ, List.setIfInBounds_toArray, List.set_cons_zero, List.set_cons_succ]
      refine wpAnyH_take (i := 2) (v := .int .i64 0) rfl (by kernel_rfl) (by kernel_rfl) (by kernel_rfl) (fun _ _ _ h => h) (Or.inl ⟨by rfl, fun W' hS' => by go_simp⟩) hS ?_
      simp only [Act.put, List.getElem_toArray, List.getElem_cons_zero, List.getElem_cons_succ, List.setIfInBounds_toArray, List.set_cons_zero, List.set_cons_succ]
      refine wpAnyH_take (i := 3) (v := .pointer (some ⟨g, 0, none⟩)) rfl (by kernel_rfl) (by kernel_rfl) (by kernel_rfl) (fun _ _ _ h => h) (Or.inl ⟨by rfl, fun W' hS' => by go_simp⟩) hS ?_
      simp only [Act.put, List.getElem_toArray, List.getElem_cons_zero, List.getElem_cons_succ, List.setIfInBounds_toArray, List.set_cons_zero, List.set_cons_succ]
      refine wpAnyH_take (i := 4) (v := .agg #[.bool false, .slice A0 n0 c0]) rfl (by kernel_rfl) (by kernel_rfl) (by kernel_rfl) (fun _ _ _ h => h) (Or.inl ⟨by rfl, fun W' hS' => by obtain ⟨p0, p1, p2, p3⟩ := HST.out W' hS'; go_simp⟩) hS ?_
      simp only [Act.put, List.getElem_toArray, List.getElem_cons_zero, List.getElem_cons_succ, List.setIfInBounds_toArray, List.set_cons_zero, List.set_cons_succ]
      refine wpAnyH_take (i := 5) (v := .slice (some ⟨g, 0, none⟩) 4 4) rfl (by kernel_rfl) (by kernel_rfl) (by kernel_rfl) (fun _ _ _ h => h) (Or.inl ⟨by rfl, fun W' hS' => by go_simp⟩) hS ?_
      simp only [Act.put, List.getElem_toArray, List.getElem_cons_zero, List.getElem_cons_succ, List.setIfInBounds_toArray, List.set_cons_zero, List.set_cons_succ]
      refine wpAnyH_take (i := 6) (v := .int .i64 0) rfl (by kernel_rfl) (by kernel_rfl) (by kernel_rfl) (fun _ _ _ h => h) (Or.inl ⟨by rfl, fun W' hS' => by go_simp⟩) hS ?_
      simp only [Act.put, List.getElem_toArray, List.getElem_cons_zero, List.getElem_cons_succ, List.setIfInBounds_toArray, List.set_cons_zero, List.set_cons_succ]
      refine wpAnyH_take (i := 7) (v := .int .i64 1) rfl (by kernel_rfl) (by kernel_rfl) (by kernel_rfl) (fun _ _ _ h => h) (Or.inl ⟨by rfl, fun W' hS' => by have hw1 : IntKind.i64.wrap (1 : Int) = 1 := (by decide); go_simp⟩) hS ?_
      simp only [Act.put, List.getElem_toArray, List.getElem_cons_zero, List.getElem_cons_succ, List.setIfInBounds_toArray, List.set_cons_zero, List.set_cons_succ]
      refine wpAnyH_take (i := 8) (v := .pointer (some ⟨g, 2, none⟩)) rfl (by kernel_rfl) (by kernel_rfl) (by kernel_rfl) (fun _ _ _ h => h) (Or.inl ⟨by rfl, fun W' hS' => by go_simp⟩) hS ?_
      simp only [Act.put, List.getElem_toArray, List.getElem_cons_zero, List.getElem_cons_succ, List.setIfInBounds_toArray, List.set_cons_zero, List.set_cons_succ]
      refine wpAnyH_take (i := 9) (v := .agg #[.bool false, .slice A1 n1 c1]) rfl (by kernel_rfl) (by kernel_rfl) (by kernel_rfl) (fun _ _ _ h => h) (Or.inl ⟨by rfl, fun W' hS' => by obtain ⟨p0, p1, p2, p3⟩ := HST.out W' hS'; go_simp⟩) hS ?_
      simp only [Act.put, List.getElem_toArray, List.getElem_cons_zero, List.getElem_cons_succ, List.setIfInBounds_toArray, List.set_cons_zero, List.set_cons_succ]
      refine wpAnyH_ready (rs := [10]) (by kernel_rfl) (by simp) ?_
      refine AllReadyH.cons rfl (fun Kq hKq => ?_) AllReadyH.nil
      simp only [List.getElem_toArray, List.getElem_cons_zero, List.getElem_cons_succ]
      go_simp
      refine (HM1.out _ hS.2).mono ?_
      rintro e W1 ⟨m, D, d, rfl, hmv, hm, hmf, hb1⟩
      obtain ⟨nm, hnm⟩ : ∃ x, x = m.length := ⟨_, rfl⟩
      rw [← hnm] at hm ⊢
      have HNM := Lib.hid hnm
      clear hnm
      have hS1 : Blk W1 g 27 #[.bool false, .slice A0 n0 c0, .bool false, .slice A1 n1 c1, .bool false, .slice A2 n2 c2, .bool false, .slice A3 n3 c3] ∧ Below wr.heap.size wr W1 := ⟨hS.1.below hb1 hS.1.lt, hS.2.trans (hb1.mono hS.2.size)⟩
      refine hKq.out _ _ hS1 (fun _ => ?_)
      clear hKq Kq
      refine wpAnyH_take (i := 11) (v := .agg #[.bool false, .slice D nm d]) rfl (by kernel_rfl) (by kernel_rfl) (by kernel_rfl) (fun _ _ _ h => h) (Or.inl ⟨by rfl, fun W' hS' => by go_simp⟩) hS1 ?_
      simp only [Act.put, List.getElem_toArray, List.getElem_cons_zero, List.getElem_cons_succ, List.setIfInBounds_toArray, List.set_cons_zero, List.set_cons_succ]
      refine wpAnyH_take (i := 12) (v := .int .i64 0) rfl (by kernel_rfl) (by kernel_rfl) (by kernel_rfl) (fun _ _ _ h => h) (Or.inl ⟨by rfl, fun W' hS' => by go_simp⟩) hS1 ?_
      simp only [Act.put, List.getElem_toArray, List.getElem_cons_zero, List.getElem_cons_succ, List.setIfInBounds_toArray, List.set_cons_zero, List.set_cons_succ]
      refine wpAnyH_ready (rs := [13]) (by kernel_rfl) (by simp) ?_
      refine AllReadyH.cons rfl (fun Kq hKq => ?_) AllReadyH.nil
      simp only [List.getElem_toArray, List.getElem_cons_zero, List.getElem_cons_succ]
      go_simp
      refine (qdidB_ok D nm d W1).mono ?_
      rintro e W2 ⟨rfl, hb2⟩
      have hS2 : Blk W2 g 27 #[.bool false, .slice A0 n0 c0, .bool false, .slice A1 n1 c1, .bool false, .slice A2 n2 c2, .bool false, .slice A3 n3 c3] ∧ Below wr.heap.size wr W2 := ⟨hS1.1.below hb2 hS1.1.lt, hS1.2.trans (hb2.mono hS1.2.size)⟩
      refine hKq.out _ _ hS2 (fun _ => ?_)
      clear hKq Kq
      refine wpAnyH_ready (rs := [14]) (by kernel_rfl) (by simp) ?_
      refine AllReadyH.cons rfl (fun Kq hKq => ?_) AllReadyH.nil
      simp only [List.getElem_toArray, List.getElem_cons_zero, List.getElem_cons_succ]
      go_simp
      have hS3 : Blk (W2.alloc (.cells #[.bool false, .slice D nm d] 27)) g 27 #[.bool false, .slice A0 n0 c0, .bool false, .slice A1 n1 c1, .bool false, .slice A2 n2 c2, .bool false, .slice A3 n3 c3] ∧ Below wr.heap.size wr (W2.alloc (.cells #[.bool false, .slice D nm d] 27)) := ⟨hS2.1.alloc _, hS2.2.alloc hS2.2.size _⟩
      have bn := Blk.new W2 27 #[.bool false, .slice D nm d]
      refine hKq.out _ _ hS3 (fun _ => ?_)
      clear hKq Kq
      have hz1 := hb1.size
      have hz2 := hb2.size
      have hmB : BigOk (W2.alloc (.cells #[.bool false, .slice D nm d] 27)) (W2.alloc (.cells #[.bool false, .slice D nm d] 27)).heap.size false D nm d m := ((hm.below hb2).more hz2).below ((Below.refl _ _).alloc (Nat.le_refl _) _) |>.more (by simp)
      have hBel := hS3.2
      generalize W2.alloc (.cells #[.bool false, .slice D nm d] 27) = W3 at hS3 bn hmB hBel ⊢
      refine wpAnyH_ready (rs := [15]) (by kernel_rfl) (by simp) ?_
      refine AllReadyH.cons rfl (fun Kq hKq => ?_) AllReadyH.nil
      simp only [List.getElem_toArray, List.getElem_cons_zero, List.getElem_cons_succ]
      rw [if_pos (by rfl)]
      refine wp_app_big _ _ rfl W3.heap.size (.slice none 0 0) 0 [] rfl (World.ownsRow_nil W3 W3.heap.size 27 2) D nm d bn rfl (by omega) (Nat.le_refl _) ?_
      intro v4 W4 hO4 hg4
      obtain ⟨G4, cap4, rfl, hBG4, hGz4, hcap4, hcapm4, hcell4⟩ := BgOwn.shape hO4 (by omega)
      have hB34 : Below W3.heap.size W3 W4 := hg4.below (Nat.le_refl _) (fun k e => by simp [Value.ownBlock] at e)
      have hS4 : Blk W4 g 27 #[.bool false, .slice A0 n0 c0, .bool false, .slice A1 n1 c1, .bool false, .slice A2 n2 c2, .bool false, .slice A3 n3 c3] ∧ Below wr.heap.size wr W4 := ⟨hS3.1.below hB34 hS3.1.lt, hS3.2.trans (hB34.mono hS3.2.size)⟩
      refine hKq.out _ _ hS4 (fun _ => ?_)
      clear hKq Kq
      refine wpAnyH_take (i := 16) (v := .slice (some ⟨G4, 0, none⟩) 1 cap4) rfl (by kernel_rfl) (by kernel_rfl) (by kernel_rfl) (fun _ _ _ h => h) (Or.inl ⟨by rfl, fun W' hS' => by go_simp⟩) hS4 ?_
      simp only [Act.put, List.getElem_toArray, List.getElem_cons_zero, List.getElem_cons_succ, List.setIfInBounds_toArray, List.set_cons_zero, List.set_cons_succ]
      refine wpAnyH_done (by kernel_rfl) ?_ _
      have HMV := Lib.hid hmv
      have HP := Lib.hid (show ProdOne wr V1 (.slice (some ⟨G4, 0, none⟩) 1 cap4) W4 from ⟨m, D, nm, d, W3.heap.size, hmv, hmB.below hB34, hO4, hB34.size, hS3.2.size, hS4.2⟩)
      clear hmv hm hmf
      go_wp2_with fail
      go_roundw
      case rel => exact .inr (.inl ⟨by go_num, HP.out⟩)
      case measure => simp [intOf]
    · obtain ⟨l, A, n, c, B, hv, hl, hO, hBz, hwB, hB⟩ := h
      obtain ⟨G, cap, rfl, hBG, hGz, hcap, hcapm, hcell⟩ := BgOwn.shape hO (by omega)
      have HST := Lib.hid (fun W' => (show Blk W' g 27 #[.bool false, .slice A0 n0 c0, .bool false, .slice A1 n1 c1, .bool false, .slice A2 n2 c2, .bool false, .slice A3 n3 c3] ∧ Below w.heap.size w W' → W'.cell? ⟨g, 4, none⟩ = some (.bool false) ∧ W'.cell? ⟨g, 5, none⟩ = some (.slice A2 n2 c2) ∧ W'.cell? ⟨g, 6, none⟩ = some (.bool false) ∧ W'.cell? ⟨g, 7, none⟩ = some (.slice A3 n3 c3) from fun h => ⟨h.1.cell 4, h.1.cell 5, h.1.cell 6, h.1.cell 7⟩))
      have HV := Lib.hid hv
      have HL := Lib.hid hl
      have HO := Lib.hid hO
      have HGB := Lib.hid (HG.out.below hB HG.out.lt)
      have HBW := Lib.hid hB
      clear hv hl hO hB hcell
      go_wp2_with fail
      refine wp_region_held_drew (S := fun W' => Blk W' g 27 #[.bool false, .slice A0 n0 c0, .bool false, .slice A1 n1 c1, .bool false, .slice A2 n2 c2, .bool false, .slice A3 n3 c3] ∧ Below w.heap.size w W') (by kernel_rfl) ⟨HGB.out.drew, HBW.out.drew⟩ (fun hS => ?_)
      refine wpAnyH_take (i := 0) (v := .slice (some ⟨G, 0, none⟩) 1 cap) rfl (by kernel_rfl) (by kernel_rfl) (by kernel_rfl) (fun _ _ _ h => h) (Or.inl ⟨by rfl, fun W' hS' => by go_simp⟩) hS ?_
      simp only [Act.put, List.getElem_toArray, List.getElem_cons_zero, List.getElem_cons_succ, List.setIfInBounds_toArray, List.set_cons_zero, List.set_cons_succ]
      refine wpAnyH_take (i := 1) (v := .slice (some ⟨g, 0, none⟩) 4 4) rfl (by kernel_rfl) (by kernel_rfl) (by kernel_rfl) (fun _ _ _ h => h) (Or.inl ⟨by rfl, fun W' hS' => by go_simp⟩) hS ?_
      simp only [Act.put, List.getElem_toArray, List.getElem_cons_zero, List.getElem_cons_succ, List.setIfInBounds_toArray, List.set_cons_zero, List.set_cons_succ]
      refine wpAnyH_take (i := 2) (v := .int .i64 2) rfl (by kernel_rfl) (by kernel_rfl) (by kernel_rfl) (fun _ _ _ h => h) (Or.inl ⟨by rfl, fun W' hS' => by go_simp⟩) hS ?_
      simp only [Act.put, List.getElem_toArray, List.getElem_cons_zero, List.getElem_cons_succ, List.setIfInBounds_toArray, List.set_cons_zero, List.set_cons_succ]
      refine wpAnyH_take (i := 3) (v := .pointer (some ⟨g, 4, none⟩)) rfl (by kernel_rfl) (by kernel_rfl) (by kernel_rfl) (fun _ _ _ h => h) (Or.inl ⟨by rfl, fun W' hS' => by go_simp⟩) hS ?_
      simp only [Act.put, List.getElem_toArray, List.getElem_cons_zero, List.getElem_cons_succ, List.setIfInBounds_toArray, List.set_cons_zero, List.set_cons_succ]
      refine wpAnyH_take (i := 4) (v := .agg #[.bool false, .slice A2 n2 c2]) rfl (by kernel_rfl) (by kernel_rfl) (by kernel_rfl) (fun _ _ _ h => h) (Or.inl ⟨by rfl, fun W' hS' => by obtain ⟨p0, p1, p2, p3⟩ := HST.out W' hS'; go_simp⟩) hS ?_
      simp only [Act.put, List.getElem_toArray, List.getElem_cons_zero, List.getElem_cons_succ, List.setIfInBounds_toArray, List.set_cons_zero, List.set_cons_succ]
      refine wpAnyH_take (i := 5) (v := .slice (some ⟨g, 0, none⟩) 4 4) rfl (by kernel_rfl) (by kernel_rfl) (by kernel_rfl) (fun _ _ _ h => h) (Or.inl ⟨by rfl, fun W' hS' => by go_simp⟩) hS ?_
      simp only [Act.put, List.getElem_toArray, List.getElem_cons_zero, List.getElem_cons_succ, List.setIfInBounds_toArray, List.set_cons_zero, List.set_cons_succ]
      refine wpAnyH_take (i := 6) (v := .int .i64 2) rfl (by kernel_rfl) (by kernel_rfl) (by kernel_rfl) (fun _ _ _ h => h) (Or.inl ⟨by rfl, fun W' hS' => by go_simp⟩) hS ?_
      simp only [Act.put, List.getElem_toArray, List.getElem_cons_zero, List.getElem_cons_succ, List.setIfInBounds_toArray, List.set_cons_zero, List.set_cons_succ]
      refine wpAnyH_take (i := 7) (v := .int .i64 3) rfl (by kernel_rfl) (by kernel_rfl) (by kernel_rfl) (fun _ _ _ h => h) (Or.inl ⟨by rfl, fun W' hS' => by have hw1 : IntKind.i64.wrap (3 : Int) = 3 := (by decide); go_simp⟩) hS ?_
      simp only [Act.put, List.getElem_toArray, List.getElem_cons_zero, List.getElem_cons_succ, List.setIfInBounds_toArray, List.set_cons_zero, List.set_cons_succ]
      refine wpAnyH_take (i := 8) (v := .pointer (some ⟨g, 6, none⟩)) rfl (by kernel_rfl) (by kernel_rfl) (by kernel_rfl) (fun _ _ _ h => h) (Or.inl ⟨by rfl, fun W' hS' => by go_simp⟩) hS ?_
      simp only [Act.put, List.getElem_toArray, List.getElem_cons_zero, List.getElem_cons_succ, List.setIfInBounds_toArray, List.set_cons_zero, List.set_cons_succ]
      refine wpAnyH_take (i := 9) (v := .agg #[.bool false, .slice A3 n3 c3]) rfl (by kernel_rfl) (by kernel_rfl) (by kernel_rfl) (fun _ _ _ h => h) (Or.inl ⟨by rfl, fun W' hS' => by obtain ⟨p0, p1, p2, p3⟩ := HST.out W' hS'; go_simp⟩) hS ?_
      simp only [Act.put, List.getElem_toArray, List.getElem_cons_zero, List.getElem_cons_succ, List.setIfInBounds_toArray, List.set_cons_zero, List.set_cons_succ]
      refine wpAnyH_ready (rs := [10]) (by kernel_rfl) (by simp) ?_
      refine AllReadyH.cons rfl (fun Kq hKq => ?_) AllReadyH.nil
      simp only [List.getElem_toArray, List.getElem_cons_zero, List.getElem_cons_succ]
      go_simp
      refine (HM2.out _ hS.2).mono ?_
      rintro e W1 ⟨m, D, d, rfl, hmv, hm, hmf, hb1⟩
      obtain ⟨nm, hnm⟩ : ∃ x, x = m.length := ⟨_, rfl⟩
      rw [← hnm] at hm ⊢
      have HNM := Lib.hid hnm
      clear hnm
      have hS1 : Blk W1 g 27 #[.bool false, .slice A0 n0 c0, .bool false, .slice A1 n1 c1, .bool false, .slice A2 n2 c2, .bool false, .slice A3 n3 c3] ∧ Below w.heap.size w W1 := ⟨hS.1.below hb1 hS.1.lt, hS.2.trans (hb1.mono hS.2.size)⟩
      refine hKq.out _ _ hS1 (fun _ => ?_)
      clear hKq Kq
      refine wpAnyH_take (i := 11) (v := .agg #[.bool false, .slice D nm d]) rfl (by kernel_rfl) (by kernel_rfl) (by kernel_rfl) (fun _ _ _ h => h) (Or.inl ⟨by rfl, fun W' hS' => by go_simp⟩) hS1 ?_
      simp only [Act.put, List.getElem_toArray, List.getElem_cons_zero, List.getElem_cons_succ, List.setIfInBounds_toArray, List.set_cons_zero, List.set_cons_succ]
      refine wpAnyH_take (i := 12) (v := .int .i64 0) rfl (by kernel_rfl) (by kernel_rfl) (by kernel_rfl) (fun _ _ _ h => h) (Or.inl ⟨by rfl, fun W' hS' => by go_simp⟩) hS1 ?_
      simp only [Act.put, List.getElem_toArray, List.getElem_cons_zero, List.getElem_cons_succ, List.setIfInBounds_toArray, List.set_cons_zero, List.set_cons_succ]
      refine wpAnyH_ready (rs := [13]) (by kernel_rfl) (by simp) ?_
      refine AllReadyH.cons rfl (fun Kq hKq => ?_) AllReadyH.nil
      simp only [List.getElem_toArray, List.getElem_cons_zero, List.getElem_cons_succ]
      go_simp
      refine (qdidB_ok D nm d W1).mono ?_
      rintro e W2 ⟨rfl, hb2⟩
      have hS2 : Blk W2 g 27 #[.bool false, .slice A0 n0 c0, .bool false, .slice A1 n1 c1, .bool false, .slice A2 n2 c2, .bool false, .slice A3 n3 c3] ∧ Below w.heap.size w W2 := ⟨hS1.1.below hb2 hS1.1.lt, hS1.2.trans (hb2.mono hS1.2.size)⟩
      refine hKq.out _ _ hS2 (fun _ => ?_)
      clear hKq Kq
      refine wpAnyH_ready (rs := [14]) (by kernel_rfl) (by simp) ?_
      refine AllReadyH.cons rfl (fun Kq hKq => ?_) AllReadyH.nil
      simp only [List.getElem_toArray, List.getElem_cons_zero, List.getElem_cons_succ]
      go_simp
      have hS3 : Blk (W2.alloc (.cells #[.bool false, .slice D nm d] 27)) g 27 #[.bool false, .slice A0 n0 c0, .bool false, .slice A1 n1 c1, .bool false, .slice A2 n2 c2, .bool false, .slice A3 n3 c3] ∧ Below w.heap.size w (W2.alloc (.cells #[.bool false, .slice D nm d] 27)) := ⟨hS2.1.alloc _, hS2.2.alloc hS2.2.size _⟩
      have bn := Blk.new W2 27 #[.bool false, .slice D nm d]
      refine hKq.out _ _ hS3 (fun _ => ?_)
      clear hKq Kq
      have hz1 := hb1.size
      have hz2 := hb2.size
      have hwd : wr.drew.heap.size = wr.heap.size := rfl
      have hb12 : Below wr.heap.size wr.drew W2 := hb1.trans (hb2.mono hz1)
      have hb13 : Below wr.heap.size wr (W2.alloc (.cells #[.bool false, .slice D nm d] 27)) := ((Below.refl _ wr).drew.trans hb12).alloc (Nat.le_trans hz1 hz2) _
      have hO3 := HO.out.below hb13
      have hl3 := (HL.out.below (hb13.mono hBz))
      have hmB : BigOk (W2.alloc (.cells #[.bool false, .slice D nm d] 27)) (W2.alloc (.cells #[.bool false, .slice D nm d] 27)).heap.size false D nm d m := ((hm.below hb2).more hz2).below ((Below.refl _ _).alloc (Nat.le_refl _) _) |>.more (by simp)
      have hBel := hS3.2
      have hz3 := hb13.size
      generalize W2.alloc (.cells #[.bool false, .slice D nm d] 27) = W3 at hS3 bn hmB hBel hO3 hl3 hz3 hb13 ⊢
      refine wpAnyH_ready (rs := [15]) (by kernel_rfl) (by simp) ?_
      refine AllReadyH.cons rfl (fun Kq hKq => ?_) AllReadyH.nil
      simp only [List.getElem_toArray, List.getElem_cons_zero, List.getElem_cons_succ]
      rw [if_pos (by rfl)]
      refine wp_app_big _ _ rfl B (.slice (some ⟨G, 0, none⟩) 1 cap) 1 [.bool false, .slice A n c] rfl hO3 D nm d bn rfl (by omega) (by omega) ?_
      intro v4 W4 hO4 hg4
      obtain ⟨G4, cap4, rfl, hBG4, hGz4, hcap4, hcapm4, hcell4⟩ := BgOwn.shape hO4 (by omega)
      have hB34 : Below B W3 W4 := hg4.below (by omega) (fun k e => by have e2 := Option.some.inj e; simp at e2; omega)
      have hS4 : Blk W4 g 27 #[.bool false, .slice A0 n0 c0, .bool false, .slice A1 n1 c1, .bool false, .slice A2 n2 c2, .bool false, .slice A3 n3 c3] ∧ Below w.heap.size w W4 := ⟨hS3.1.below hB34 (Nat.lt_of_lt_of_le HG.out.lt hwB), hS3.2.trans (hB34.mono hwB)⟩
      refine hKq.out _ _ hS4 (fun _ => ?_)
      clear hKq Kq
      refine wpAnyH_take (i := 16) (v := .slice (some ⟨G4, 0, none⟩) 2 cap4) rfl (by kernel_rfl) (by kernel_rfl) (by kernel_rfl) (fun _ _ _ h => h) (Or.inl ⟨by rfl, fun W' hS' => by go_simp⟩) hS4 ?_
      simp only [Act.put, List.getElem_toArray, List.getElem_cons_zero, List.getElem_cons_succ, List.setIfInBounds_toArray, List.set_cons_zero, List.set_cons_succ]
      refine wpAnyH_done (by kernel_rfl) ?_ _
      have HP := Lib.hid (show ProdPost V1 V2 w (.returned (.slice (some ⟨G4, 0, none⟩) 2 cap4)) W4 from by
        have hGz3 : G < W3.heap.size := by omega
        have hmr : MRd W4 W4.heap.size D m := fun hpos => by
          obtain ⟨b, off, e, hb, hc⟩ := hmB.rd hpos
          have hbf := hmf _ e
          refine ⟨b, off, e, Nat.lt_of_lt_of_le hb hg4.1.size, fun k hk => ?_⟩
          exact World.grownBy.cell hg4.1 (hc k hk) (fun e2 => by have e3 := Option.some.inj e2; simp at hbf e3; omega)
        exact ⟨l, m, A, D, n, nm, c, d, G4, cap4, rfl, HV.out, hmv, (hl3.below hB34).more (Nat.le_trans (by omega) hg4.1.size), hmB.rdIn hmr, ⟨hcell4 0 _ rfl, hcell4 1 _ rfl, hcell4 2 _ rfl, hcell4 3 _ rfl⟩, ⟨Nat.le_trans hwB hBG4, hGz4⟩, hS4.2⟩)
      clear hmv hm hmf
      go_wp2_with fail
      go_roundw
      case rel => exact .inr (.inr ⟨by go_num, HP.out⟩)
      case measure => simp [intOf]
    · have HP := Lib.hid h
      clear h
      go_wp2_with fail
      go_ret
      exact HP.out
end Go.Proofs.YtkkcbkfpaoldmaaGreatDoor

/- Walk: (ratio.pair).lowest of integers that are not negative. -/
namespace Go.Proofs.YtkkcbkfpaoldmaaGreatDoor
open Go Go.RowKit

theorem ratSize : (Tryz.prog.info? 29).map (·.size) = some 4 := by kernel_rfl
theorem rat_noint (b1 b2 : Bool) (A1 A2 : Option Addr) (n1 c1 n2 c2 : Nat) (i : Nat) (x : Int) : (#[Value.bool b1, Value.slice A1 n1 c1, Value.bool b2, Value.slice A2 n2 c2])[i]? ≠ some (Value.int .i64 x) := by
  rcases i with _ | _ | _ | _ | i <;> simp
section
variable {ops : Array Oper} {rest : List Oper} {o : Oper} {a : Act} {Q : Exit → Act → World → Prop}
/-- A ratio laid into a block that is known. -/
theorem store_rat (hgd : o.guard = none) (p y : Operand) (ho : o.op = .store 29 p y) {w : World} {g : Nat} {c : Array Value} {tt : TypeId} (hg : Blk w g tt c) (A1 A2 : Option Addr) (n1 k1 n2 k2 : Nat)
    (hx : a.eval p = .pointer (some ⟨g, 0, none⟩)) (hy : a.eval y = .agg #[.bool false, .slice A1 n1 k1, .bool false, .slice A2 n2 k2]) (hold : c.size = 4)
    (h : ∀ w', Blk w' g tt #[.bool false, .slice A1 n1 k1, .bool false, .slice A2 n2 k2] → Only w w' g → w'.heap.size = w.heap.size → wpList Tryz.prog ops Q rest (a.put o.dst undef) w') : wpList Tryz.prog ops Q (o :: rest) a w :=
  wpList_store_row hgd _ p y ho g _ hx hy tt c hg ratSize (by rw [hold]; rfl) (by simp [Value.oneCell'])
    (h _ (setRow_heap w g c _ tt _ hg) ⟨rfl, rfl, rfl, by simp, fun i _ hne => setRow_other w g i _ (fun e => hne (by rw [e]))⟩ (by simp))
theorem wp_store_rat {K : Act → World → Prop} (p y : Operand) (ho : o.op = .store 29 p y) {w : World} {g : Nat} {c : Array Value} {tt : TypeId} (hg : Blk w g tt c) (A1 A2 : Option Addr) (n1 k1 n2 k2 : Nat)
    (hx : a.eval p = .pointer (some ⟨g, 0, none⟩)) (hy : a.eval y = .agg #[.bool false, .slice A1 n1 k1, .bool false, .slice A2 n2 k2]) (hold : c.size = 4)
    (h : ∀ w', Blk w' g tt #[.bool false, .slice A1 n1 k1, .bool false, .slice A2 n2 k2] → Only w w' g → w'.heap.size = w.heap.size → K (a.put o.dst undef) w') : o.wp Tryz.prog a w K Q :=
  wp_store_row 29 p y ho g _ hx hy tt c hg ratSize (by rw [hold]; rfl) (by simp [Value.oneCell'])
    (h _ (setRow_heap w g c _ tt _ hg) ⟨rfl, rfl, rfl, by simp, fun i _ hne => setRow_other w g i _ (fun e => hne (by rw [e]))⟩ (by simp))
end
theorem RatOk.rdIn {w w' : World} {B : Nat} {A1 A2 : Option Addr} {n1 c1 n2 c2 : Nat} {p q : List Int} (h : RatOk w B A1 n1 c1 A2 n2 c2 p q) (h1 : MRd w' w'.heap.size A1 p) (h2 : MRd w' w'.heap.size A2 q) : RatOk w' w'.heap.size A1 n1 c1 A2 n2 c2 p q := { h with num := h.num.rdIn h1, den := h.den.rdIn h2 }
/-- A ratio in lowest terms. -/
def LowIn (a b : Int) (w : World) (v : Value) (w' : World) : Prop :=
  ∃ (p q : List Int) (A1 A2 : Option Addr) (n1 c1 n2 c2 : Nat), v = .agg (ratC A1 n1 c1 A2 n2 c2) ∧ RatOk w' w'.heap.size A1 n1 c1 A2 n2 c2 p q ∧ valL p = a / (Int.gcd a b : Nat) ∧ valL q = b / (Int.gcd a b : Nat) ∧ (∀ b, A1 = some b → w.heap.size ≤ b.block) ∧ (∀ b, A2 = some b → w.heap.size ≤ b.block) ∧ Below w.heap.size w w'
def LowRes (a b : Int) (w : World) (e : Ending) (w' : World) : Prop := ∃ v, e = .returned v ∧ LowIn a b w v w'
theorem gcd_low (a b : Int) (ha : 0 ≤ a) (hb : 0 < b) : 0 < ((Int.gcd a b : Nat) : Int) ∧ Int.gcd (a / (Int.gcd a b : Nat)) (b / (Int.gcd a b : Nat)) = 1 ∧ 0 < b / ((Int.gcd a b : Nat) : Int) := by
  obtain ⟨m, rfl⟩ : ∃ m : Nat, a = m := ⟨a.toNat, by omega⟩
  obtain ⟨n, rfl⟩ : ∃ n : Nat, b = n := ⟨b.toNat, by omega⟩
  have e : Int.gcd (m : Int) (n : Int) = Nat.gcd m n := rfl
  rw [e]
  have hg : 0 < Nat.gcd m n := Nat.gcd_pos_of_pos_right _ (by omega)
  refine ⟨by omega, ?_, ?_⟩
  · rw [← Int.natCast_ediv, ← Int.natCast_ediv]
    show Nat.gcd (m / Nat.gcd m n) (n / Nat.gcd m n) = 1
    exact Nat.gcd_div_gcd_div_gcd_of_pos_right (by omega)
  · rw [← Int.natCast_ediv]
    have := Nat.div_pos (Nat.le_of_dvd (by omega) (Nat.gcd_dvd_right m n)) hg
    omega
set_option maxRecDepth 100000 in
set_option linter.unusedSimpArgs false in
set_option linter.unusedVariables false in
set_option maxHeartbeats 4000000 in
theorem lowest_ok (A1 A2 : Option Addr) (n1 c1 n2 c2 : Nat) (a b : List Int) (w : World) (ha : BigOk w w.heap.size false A1 n1 c1 a) (hb : BigOk w w.heap.size false A2 n2 c2 b) (h2 : 0 < n2) :
    Calls Tryz.prog 76 #[.agg (ratC A1 n1 c1 A2 n2 c2)] w (LowRes (valL a) (valL b) w) := by
  have HG := Lib.hid (fun W (h : Below w.heap.size w W) => nGcd_ok A1 A2 n1 c1 n2 c2 a b W ((ha.below h).more h.size) ((hb.below h).more h.size))
  have HA := Lib.hid ha
  have HB := Lib.hid hb
  have hgl := gcd_low (valL a) (valL b) ha.val (hb.pos h2)
  obtain ⟨G, hG⟩ : ∃ x : Int, x = (Int.gcd (valL a) (valL b) : Nat) := ⟨_, rfl⟩
  rw [← hG] at hgl HG
  have HGE := Lib.hid hG
  have HGL := Lib.hid hgl
  clear ha hb hG hgl
  go_enter Tryz.func76, Tryz.ntmps76
  go_wp2_with fail
  refine calls_gen (fun W => Blk W w.heap.size 129 (ratC A1 n1 c1 A2 n2 c2) ∧ Blk W (w.heap.size + 1) 29 (ratC none 0 0 none 0 0) ∧ Below w.heap.size w W) ⟨(Blk.new w _ _).alloc _, Blk.new' _ _ _ (by simp), ((Below.refl _ w).alloc (Nat.le_refl _) _).alloc (by simp) _⟩ (fun W0 ⟨b0, b1, hB0⟩ => ?_)
  refine (HG.out W0 hB0).mono ?_
  rintro e W1 ⟨g, Ag, ng, cg, rfl, hgv, hgk, hb1⟩
  have D0 := Lib.hid (b0.below hb1 b0.lt)
  have D1 := Lib.hid (b1.below hb1 b1.lt)
  have HB1 := Lib.hid (hB0.trans (hb1.mono hB0.size))
  have HGV := Lib.hid hgv
  have HGK := Lib.hid hgk
  clear b0 b1 hB0 hb1 hgv hgk HG
  go_wp2_with fail
  refine (qdidB_ok Ag ng cg W1).mono ?_
  rintro e W2 ⟨rfl, hb2⟩
  have d0 := D0.out.below hb2 D0.out.lt
  have E1 := Lib.hid (D1.out.below hb2 D1.out.lt)
  have HB2 := Lib.hid (HB1.out.trans (hb2.mono HB1.out.size))
  have HGK2 := Lib.hid ((HGK.out.below hb2).more hb2.size)
  have E0 := Lib.hid d0
  have hlt0 := d0.lt
  clear hb2 d0 D0 D1 HB1 HGK
  have k0 : (W2.alloc (.cells #[.bool false, .slice Ag ng cg] 27)).cell? ⟨w.heap.size, 0, none⟩ = some (.bool false) := (E0.out.alloc _).cell 0
  have k1 : (W2.alloc (.cells #[.bool false, .slice Ag ng cg] 27)).cell? ⟨w.heap.size, 1, none⟩ = some (.slice A1 n1 c1) := (E0.out.alloc _).cell 1
  go_wp2_with fail
  have hng : 0 < ng := by
    rcases Nat.eq_zero_or_pos ng with h | h
    · have h3 := HGK2.out.zero.2 h
      rw [HGV.out] at h3
      have := HGL.out.1
      omega
    · exact h
  obtain ⟨W3, hW3⟩ : ∃ W, W = W2.alloc (.cells #[.bool false, .slice Ag ng cg] 27) := ⟨_, rfl⟩
  have hb23 : Below W2.heap.size W2 W3 := by rw [hW3]; exact (Below.refl _ _).alloc (Nat.le_refl _) _
  have F3 : Blk W3 W2.heap.size 27 #[.bool false, .slice Ag ng cg] := by rw [hW3]; exact Blk.new _ _ _
  rw [← hW3]
  have HB3 := Lib.hid (HB2.out.trans (hb23.mono HB2.out.size))
  have F0 := Lib.hid (E0.out.below hb23 E0.out.lt)
  have F1 := Lib.hid (E1.out.below hb23 E1.out.lt)
  have HGK3 := Lib.hid ((HGK2.out.below hb23).more hb23.size)
  obtain ⟨t3, ht3⟩ : ∃ x, x = W2.heap.size := ⟨_, rfl⟩
  rw [← ht3] at F3 ⊢
  have HF3 := Lib.hid F3
  have hb23s : t3 ≤ W3.heap.size := by rw [ht3]; exact hb23.size
  have hwt3 : w.heap.size + 1 < t3 := by rw [ht3]; exact E1.out.lt
  clear k0 k1 hW3 hb23 F3 ht3 E0 E1 HB2 HGK2 hlt0
  have HD1 := Lib.hid (fun W (h : Below W3.heap.size W3 W) => nDiv_ok A1 Ag n1 c1 ng cg a g W ((HA.out.below (HB3.out.trans (h.mono HB3.out.size))).more (Nat.le_trans HB3.out.size h.size)) ((HGK3.out.below h).more h.size) hng)
  have HD2 := Lib.hid (fun W (h : Below W3.heap.size W3 W) => nDiv_ok A2 Ag n2 c2 ng cg b g W ((HB.out.below (HB3.out.trans (h.mono HB3.out.size))).more (Nat.le_trans HB3.out.size h.size)) ((HGK3.out.below h).more h.size) hng)
  refine (HD1.out W3 (Below.refl _ _)).mono ?_
  rintro e W4 ⟨p, r, Ap, Ar, np, nr, cp, cr, rfl, hpv, -, hp, -, hfp, hb4⟩
  have HFP := Lib.hid (fun b (e : Ap = some b) => Nat.le_trans HB3.out.size (hfp b e))
  have HPV := Lib.hid hpv
  have HP := Lib.hid hp
  have H43 := Lib.hid hb4
  clear hpv hp hb4 hfp
  have hz4 := H43.out.size
  obtain ⟨W5, hW5⟩ : ∃ W, W = (W4.alloc (.cells #[.bool false, .slice Ap np cp] 27)).alloc (.cells #[.bool false, .slice Ar nr cr] 27) := ⟨_, rfl⟩
  have hb45 : Below W4.heap.size W4 W5 := by rw [hW5]; exact ((Below.refl _ _).alloc (Nat.le_refl _) _).alloc (by simp) _
  have HN : Hid (Blk W5 W4.heap.size 27 #[.bool false, .slice Ap np cp]) := Lib.hid (by rw [hW5]; exact (Blk.new _ _ _).alloc _)
  have H53 := Lib.hid (H43.out.trans (hb45.mono hz4))
  have k0 : W5.cell? ⟨w.heap.size, 2, none⟩ = some (.bool false) := (F0.out.below H53.out F0.out.lt).cell 2
  have k1 : W5.cell? ⟨w.heap.size, 3, none⟩ = some (.slice A2 n2 c2) := (F0.out.below H53.out F0.out.lt).cell 3
  have k2 : W5.cell? ⟨t3, 0, none⟩ = some (.bool false) := (HF3.out.below H53.out HF3.out.lt).cell 0
  have k3 : W5.cell? ⟨t3, 1, none⟩ = some (.slice Ag ng cg) := (HF3.out.below H53.out HF3.out.lt).cell 1
  have HW5 := Lib.hid hW5
  have HP5 := Lib.hid ((HP.out.below hb45).more hb45.size)
  clear hW5 hb45 HP
  go_upto_region 3 with fail
  rw [← HW5.out]
  clear HW5
  go_wp2_with fail
  refine (HD2.out W5 H53.out).mono ?_
  rintro e W6 ⟨q, r2, Aq, Ar2, nq, nr2, cq, cr2, rfl, hqv, -, hq, -, hfq, hb6⟩
  have HFQ := Lib.hid (fun b (e : Aq = some b) => Nat.le_trans (HB3.out.trans (H53.out.mono HB3.out.size)).size (hfq b e))
  have HQV := Lib.hid hqv
  have HQ := Lib.hid hq
  have H65 := Lib.hid hb6
  clear hqv hq hb6 hfq k0 k1 k2 k3
  have hz6 := H65.out.size
  obtain ⟨W7, hW7⟩ : ∃ W, W = (W6.alloc (.cells #[.bool false, .slice Aq nq cq] 27)).alloc (.cells #[.bool false, .slice Ar2 nr2 cr2] 27) := ⟨_, rfl⟩
  have hb67 : Below W6.heap.size W6 W7 := by rw [hW7]; exact ((Below.refl _ _).alloc (Nat.le_refl _) _).alloc (by simp) _
  have hd7 : Blk W7 W6.heap.size 27 #[.bool false, .slice Aq nq cq] := by rw [hW7]; exact (Blk.new _ _ _).alloc _
  have H75 := Lib.hid (H65.out.trans (hb67.mono hz6))
  have hn7 := HN.out.below H75.out HN.out.lt
  have k0 : W7.cell? ⟨W4.heap.size, 0, none⟩ = some (.bool false) := hn7.cell 0
  have k1 : W7.cell? ⟨W4.heap.size, 1, none⟩ = some (.slice Ap np cp) := hn7.cell 1
  have k2 : W7.cell? ⟨W6.heap.size, 0, none⟩ = some (.bool false) := hd7.cell 0
  have k3 : W7.cell? ⟨W6.heap.size, 1, none⟩ = some (.slice Aq nq cq) := hd7.cell 1
  have HW7 := Lib.hid hW7
  have HQ7 := Lib.hid ((HQ.out.below hb67).more hb67.size)
  have HP7 := Lib.hid ((HP5.out.below H75.out).more H75.out.size)
  have H73 := Lib.hid (H53.out.trans (H75.out.mono H53.out.size))
  have HB7 := Lib.hid (HB3.out.trans (H73.out.mono HB3.out.size))
  have f1 : Blk W7 (w.heap.size + 1) 29 (ratC none 0 0 none 0 0) := F1.out.below H73.out F1.out.lt
  clear hW7 hb67 HQ hn7 hd7
  go_upto_region 4 with fail
  rw [← HW7.out]
  clear HW7
  go_wp2_with (first
    | (refine store_rat rfl _ _ rfl f1 Ap Aq np cp nq cq rfl rfl rfl ?_; intro w8 hD8 hO8 hz8)
    | (refine wpList_skip (by rfl) ?_))
  refine bodyPost_ret (results_cell_row rfl _ _ (w.heap.size + 1) 29 _ (0, 0) _ rfl hD8 Tryz.underlying29 rfl ratSize) rfl ?_
  have hq0 : 0 < nq := by
    rcases Nat.eq_zero_or_pos nq with h | h
    · have h3 := HQ7.out.zero.2 h
      rw [HQV.out, HGV.out] at h3
      have := HGL.out.2.2
      omega
    · exact h
  have hr : RatOk w8 w8.heap.size Ap np cp Aq nq cq p q := by
    have h1 := (mrd_only HP7.out.rd f1 (rat_noint _ _ _ _ _ _ _ _) hO8).more hO8.size
    have h2 := (mrd_only HQ7.out.rd f1 (rat_noint _ _ _ _ _ _ _ _) hO8).more hO8.size
    exact ⟨HP7.out.rdIn h1, HQ7.out.rdIn h2, hq0, by rw [HPV.out, HQV.out, HGV.out]; exact HGL.out.2.1⟩
  exact ⟨_, rfl, p, q, Ap, Aq, np, cp, nq, cq, rfl, hr, by rw [HPV.out, HGV.out, HGE.out], by rw [HQV.out, HGV.out, HGE.out], HFP.out, HFQ.out, HB7.out.trans (hO8.toBelow HB7.out.size (Nat.le_succ _))⟩
end Go.Proofs.YtkkcbkfpaoldmaaGreatDoor

/- Walks: ratio.Of, Make of integers that are not negative. -/
namespace Go.Proofs.YtkkcbkfpaoldmaaGreatDoor
open Go Go.RowKit

/-- A ratio in lowest terms, and no error. -/
def RatRes (a b : Int) (w : World) (e : Ending) (w' : World) : Prop := ∃ v, e = .returned (.tuple #[v, .int .i64 0]) ∧ LowIn a b w v w'
set_option maxRecDepth 100000 in
set_option linter.unusedSimpArgs false in
set_option linter.unusedVariables false in
set_option maxHeartbeats 4000000 in
theorem qOf_ok (A1 A2 : Option Addr) (n1 c1 n2 c2 : Nat) (a b : List Int) (w : World) (ha : BigOk w w.heap.size false A1 n1 c1 a) (hb : BigOk w w.heap.size false A2 n2 c2 b) (h2 : 0 < n2) :
    Calls Tryz.prog 45 #[.agg #[.bool false, .slice A1 n1 c1], .agg #[.bool false, .slice A2 n2 c2]] w (RatRes (valL a) (valL b) w) := by
  have HC1 := Lib.hid (fun W (h : Below w.heap.size w W) => nCheck_ok false A1 n1 c1 a W ((ha.below h).more h.size))
  have HC2 := Lib.hid (fun W (h : Below w.heap.size w W) => nCheck_ok false A2 n2 c2 b W ((hb.below h).more h.size))
  unfold bigV at HC1 HC2
  have HL := Lib.hid (fun W (h : Below w.heap.size w W) => lowest_ok A1 A2 n1 c1 n2 c2 a b W ((ha.below h).more h.size) ((hb.below h).more h.size) h2)
  have g0 : decide ((0 : Int) < (n2 : Int)) = true := decide_eq_true (by omega)
  have g0n : decide (0 < n2) = true := decide_eq_true h2
  clear ha hb
  go_enter_defers Tryz.func45, Tryz.ntmps45
  go_wp2_with fail
  refine calls_gen (fun W => Blk W w.heap.size 27 #[.bool false, .slice A1 n1 c1] ∧ Blk W (w.heap.size + 1) 27 #[.bool false, .slice A2 n2 c2] ∧ Blk W (w.heap.size + 2) 29 (ratC none 0 0 none 0 0) ∧ Blk W (w.heap.size + 3) 32 #[.int .i64 0] ∧ Below w.heap.size w W)
    ⟨(((Blk.new w _ _).alloc _).alloc _).alloc _, ((Blk.new' _ _ _ (by simp)).alloc _).alloc _, (Blk.new' _ _ _ (by simp)).alloc _, Blk.new' _ _ _ (by simp), ((((Below.refl _ w).alloc (Nat.le_refl _) _).alloc (by simp) _).alloc (by simp; omega) _).alloc (by simp; omega) _⟩ (fun W0 ⟨b0, b1, b2, b3, hB0⟩ => ?_)
  refine (HC1.out W0 hB0).mono ?_
  rintro e W1 ⟨rfl, hb1⟩
  have D0 := Lib.hid (b0.below hb1 b0.lt)
  have D1 := Lib.hid (b1.below hb1 b1.lt)
  have D2 := Lib.hid (b2.below hb1 b2.lt)
  have D3 := Lib.hid (b3.below hb1 b3.lt)
  have HB1 := Lib.hid (hB0.trans (hb1.mono hB0.size))
  have k0 : W1.cell? ⟨w.heap.size + 1, 0, none⟩ = some (.bool false) := D1.out.cell 0
  have k1 : W1.cell? ⟨w.heap.size + 1, 1, none⟩ = some (.slice A2 n2 c2) := D1.out.cell 1
  clear b0 b1 b2 b3 hB0 hb1
  go_wp2_with fail
  refine (HC2.out W1 HB1.out).mono ?_
  rintro e W2 ⟨rfl, hb2⟩
  have E0 := Lib.hid (D0.out.below hb2 D0.out.lt)
  have E1 := Lib.hid (D1.out.below hb2 D1.out.lt)
  have E2 := Lib.hid (D2.out.below hb2 D2.out.lt)
  have E3 := Lib.hid (D3.out.below hb2 D3.out.lt)
  have HB2 := Lib.hid (HB1.out.trans (hb2.mono HB1.out.size))
  clear k0 k1 hb2 D0 D1 D2 D3 HB1
  go_wp2_with fail
  refine (qneed_ok 90 W2).mono ?_
  rintro e W3 ⟨rfl, rfl⟩
  have k1 : W2.cell? ⟨w.heap.size + 1, 1, none⟩ = some (.slice A2 n2 c2) := E1.out.cell 1
  go_wp2_with fail
  refine (qneed_ok 1 W2).mono ?_
  rintro e W3 ⟨rfl, rfl⟩
  have k0 : W2.cell? ⟨w.heap.size + 1, 0, none⟩ = some (.bool false) := E1.out.cell 0
  have k2 : W2.cell? ⟨w.heap.size, 0, none⟩ = some (.bool false) := E0.out.cell 0
  have k3 : W2.cell? ⟨w.heap.size, 1, none⟩ = some (.slice A1 n1 c1) := E0.out.cell 1
  go_wp2_with fail
  refine (HL.out W2 HB2.out).mono ?_
  rintro e W4 ⟨v, rfl, p, q, Ap, Aq, np, cp, nq, cq, rfl, hr, hpv, hqv, hfp, hfq, hb4⟩
  have f2 := E2.out.below hb4 E2.out.lt
  have F3 := Lib.hid (E3.out.below hb4 E3.out.lt)
  have HB4 := Lib.hid (HB2.out.trans (hb4.mono HB2.out.size))
  have HFP := Lib.hid (fun b (e : Ap = some b) => Nat.le_trans HB2.out.size (hfp b e))
  have HFQ := Lib.hid (fun b (e : Aq = some b) => Nat.le_trans HB2.out.size (hfq b e))
  clear hfp hfq
  have HR := Lib.hid hr
  have HPV := Lib.hid hpv
  have HQV := Lib.hid hqv
  clear k0 k1 k2 k3 hb4 hr hpv hqv E0 E1 E2 E3 HB2 HC1 HC2 HL
  go_wp2_with (first
    | (refine store_rat rfl _ _ rfl f2 Ap Aq np cp nq cq rfl rfl rfl ?_; intro w8 hD8 hO8 hz8; have e3 : Blk w8 (w.heap.size + 3) 32 #[.int .i64 0] := (hO8.block _ F3.out.lt (fun e => by have := Option.some.inj e; omega)).trans F3.out; have z3 := e3.cell 0; have z3f := e3.frozen 0)
    | (refine wpList_skip (by rfl) ?_))
  refine leaves_cons (f := 47) (args := #[.pointer (some ⟨w.heap.size + 3, 0, none⟩)]) (by simp) (by simp [go_sem]) ?_
  refine (qcaught_idle ⟨w.heap.size + 3, 0, none⟩ _).mono ?_
  rintro e u' w'' ⟨rfl, rfl, rfl⟩
  have hD9 : Blk (w8.setCell ⟨w.heap.size + 3, 0, none⟩ (.int .i64 0)) (w.heap.size + 2) 29 (ratC Ap np cp Aq nq cq) := hD8.far (p := ⟨w.heap.size + 3, 0, none⟩) (by show w.heap.size + 2 ≠ w.heap.size + 3; omega) _
  have e9 : Blk (w8.setCell ⟨w.heap.size + 3, 0, none⟩ (.int .i64 0)) (w.heap.size + 3) 32 #[.int .i64 0] := e3.set 0 _
  have hB9 : Below w.heap.size w (w8.setCell ⟨w.heap.size + 3, 0, none⟩ (.int .i64 0)) := (HB4.out.trans (hO8.toBelow HB4.out.size (by omega))).setCell (p := ⟨w.heap.size + 3, 0, none⟩) (by show w.heap.size ≤ w.heap.size + 3; omega) _
  have hr9 : RatOk (w8.setCell ⟨w.heap.size + 3, 0, none⟩ (.int .i64 0)) (w8.setCell ⟨w.heap.size + 3, 0, none⟩ (.int .i64 0)).heap.size Ap np cp Aq nq cq p q := by
    have h1 := mrd_same ((mrd_only HR.out.num.rd f2 (rat_noint _ _ _ _ _ _ _ _) hO8).more hO8.size) e3
    have h2 := mrd_same ((mrd_only HR.out.den.rd f2 (rat_noint _ _ _ _ _ _ _ _) hO8).more hO8.size) e3
    exact HR.out.rdIn (by simpa using h1) (by simpa using h2)
  generalize w8.setCell ⟨w.heap.size + 3, 0, none⟩ (.int .i64 0) = W9 at hD9 e9 hB9 hr9 ⊢
  have c0 : W9.cell? ⟨w.heap.size + 1 + 1, 0, none⟩ = some (.bool false) := hD9.cell 0
  have c1 : W9.cell? ⟨w.heap.size + 1 + 1, 1, none⟩ = some (.slice Ap np cp) := hD9.cell 1
  have c2 : W9.cell? ⟨w.heap.size + 1 + 1, 2, none⟩ = some (.bool false) := hD9.cell 2
  have c3 : W9.cell? ⟨w.heap.size + 1 + 1, 3, none⟩ = some (.slice Aq nq cq) := hD9.cell 3
  have c4 : W9.cell? ⟨w.heap.size + 1 + 1 + 1, 0, none⟩ = some (.int .i64 0) := e9.cell 0
  simp only [Leaves, settle, results, Tryz.f45]
  simp [go_sem, c0, c1, c2, c3, c4, Result.andThen]
  exact ⟨_, rfl, p, q, Ap, Aq, np, cp, nq, cq, rfl, hr9, HPV.out, HQV.out, HFP.out, HFQ.out, hB9⟩
set_option maxRecDepth 100000 in
set_option linter.unusedSimpArgs false in
set_option linter.unusedVariables false in
set_option maxHeartbeats 4000000 in
theorem qMake_ok (m n : Nat) (hm : m < 1073741824) (hn : n < 1073741824) (h0 : 0 < n) (w : World) : Calls Tryz.prog 17 #[.int .i64 m, .int .i64 n] w (RatRes m n w) := by
  have HM := Lib.hid (fun W => nMake_ok m hm W)
  have HN := Lib.hid (fun W => nMake_ok n hn W)
  go_enter Tryz.func17, Tryz.ntmps17
  go_wp2_with fail
  refine calls_gen (fun W => Blk W w.heap.size 29 (ratC none 0 0 none 0 0) ∧ Below w.heap.size w W) ⟨Blk.new w _ _, (Below.refl _ w).alloc (Nat.le_refl _) _⟩ (fun W0 ⟨b0, hB0⟩ => ?_)
  refine (HM.out W0).mono ?_
  rintro e W1 ⟨x, Ax, cx, rfl, hxv, hx, hb1⟩
  have D0 := Lib.hid (b0.below hb1 b0.lt)
  have HB1 := Lib.hid (hB0.trans (hb1.mono hB0.size))
  obtain ⟨nx, hnx⟩ : ∃ y, y = x.length := ⟨_, rfl⟩
  rw [← hnx] at hx ⊢
  have HX := Lib.hid hx
  have HXV := Lib.hid hxv
  have HNX := Lib.hid hnx
  clear b0 hB0 hb1 hx hxv hnx
  go_wp2_with fail
  refine (HN.out W1).mono ?_
  rintro e W2 ⟨y, Ay, cy, rfl, hyv, hy, hb2⟩
  have E0 := Lib.hid (D0.out.below hb2 D0.out.lt)
  have HB2 := Lib.hid (HB1.out.trans (hb2.mono HB1.out.size))
  obtain ⟨ny, hny⟩ : ∃ z, z = y.length := ⟨_, rfl⟩
  rw [← hny] at hy ⊢
  have hy0 : 0 < ny := by
    rcases Nat.eq_zero_or_pos ny with h | h
    · have := hy.zero.2 h
      omega
    · exact h
  have HO := Lib.hid (qOf_ok Ax Ay nx cx ny cy x y W2 ((HX.out.below hb2).more hb2.size) hy hy0)
  rw [HXV.out, hyv] at HO
  clear hb2 hy hyv hny D0 HB1 HX HXV
  go_wp2_with fail
  refine HO.out.mono ?_
  rintro e W4 ⟨v, rfl, p, q, Ap, Aq, np, cp, nq, cq, rfl, hr, hpv, hqv, hfp, hfq, hb4⟩
  have f2 := E0.out.below hb4 E0.out.lt
  have HB4 := Lib.hid (HB2.out.trans (hb4.mono HB2.out.size))
  have HFP := Lib.hid (fun b (e : Ap = some b) => Nat.le_trans HB2.out.size (hfp b e))
  have HFQ := Lib.hid (fun b (e : Aq = some b) => Nat.le_trans HB2.out.size (hfq b e))
  clear hfp hfq
  have HR := Lib.hid hr
  have HPV := Lib.hid hpv
  have HQV := Lib.hid hqv
  clear hb4 hr hpv hqv E0 HB2 HO HM HN
  go_wp2_with (first
    | (refine store_rat rfl _ _ rfl f2 Ap Aq np cp nq cq rfl rfl rfl ?_; intro w8 hD8 hO8 hz8)
    | (refine wpList_skip (by rfl) ?_))
  refine bodyPost_ret (results_row_tmp rfl _ _ w.heap.size 29 _ (0, 0) _ _ rfl rfl hD8 Tryz.underlying29 rfl ratSize) rfl ?_
  have hr9 : RatOk w8 w8.heap.size Ap np cp Aq nq cq p q := by
    have h1 := (mrd_only HR.out.num.rd f2 (rat_noint _ _ _ _ _ _ _ _) hO8).more hO8.size
    have h2 := (mrd_only HR.out.den.rd f2 (rat_noint _ _ _ _ _ _ _ _) hO8).more hO8.size
    exact HR.out.rdIn h1 h2
  exact ⟨_, rfl, p, q, Ap, Aq, np, cp, nq, cq, rfl, hr9, HPV.out, HQV.out, HFP.out, HFQ.out, HB4.out.trans (hO8.toBelow HB4.out.size (Nat.le_refl _))⟩
end Go.Proofs.YtkkcbkfpaoldmaaGreatDoor

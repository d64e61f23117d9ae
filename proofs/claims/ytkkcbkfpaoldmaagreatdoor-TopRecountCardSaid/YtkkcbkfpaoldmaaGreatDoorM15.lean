/- Several texts in one: N38, N43, N44, N45, N46. -/
import Derived.Test.YtkkcbkfpaoldmaaGreatDoorM14
import Derived.Test.YtkkcbkfpaoldmaaGreatDoorM10
import Derived.BigGuardPart
/- Walks: slices.Clone, risk.Margin of equal numbers. -/
namespace Go.Proofs.YtkkcbkfpaoldmaaGreatDoor
open Go Go.RowKit

theorem app_span {ops : Array Oper} {rest : List Oper} {o : Oper} {a : Act} {Q : Exit → Act → World → Prop} (hgd : o.guard = none) (s x : Operand) (ho : o.op = .call { callee := .builtin .append, args := #[s, x], argTypes := #[25, 25] })
    (base : Nat) {w : World} (v : Value) (l : List Int) (hs : a.eval s = v) (hown : IOwn w base v l) (A : Option Addr) (m c : Nat) (S : Int) (hR : SRd w w.heap.size A m S)
    (hx : a.eval x = .slice A m c) (h47 : l.length + m ≤ 1000000000000) (hbase : base ≤ w.heap.size)
    (h : ∀ v' w', IOwn w' base v' (l ++ List.replicate m S) → Grew w w' v v' → wpList Tryz.prog ops Q rest (a.put o.dst v') w') : wpList Tryz.prog ops Q (o :: rest) a w := by
  have hsrc := src_rd (P := Tryz.prog) w (size := 1) (tx := 25) (n := m) (c := c) (A := A) (B := w.heap.size) (f := fun _ => .int .i64 S) Tryz.underlying25 (by rw [Nat.mul_one]; exact hR) (by omega) (fun k _ => rfl)
  have e : (List.range (m * 1)).map (fun _ => Value.int .i64 S) = icells (List.replicate m S) := by
    rw [Nat.mul_one, icells, List.map_replicate]
    exact List.ext_getElem (by simp) (fun i h1 h2 => by simp)
  rw [e] at hsrc
  exact wpList_append_src w hgd s x 25 25 ho base 3 iInfo (.int .i64 0) 1 8 Tryz.underlying25 iInfo_eq iInfo_zero iInfo_size iInfo_bytes rfl v l.length (icells l) hs hown _ m (icells (List.replicate m S)) hx hsrc
    (by simp only [maxLen]; omega) (by omega) hbase fun v' w' h1 h2 => h v' w' (by
      show World.ownsRow w' base 3 1 v' (l ++ List.replicate m S).length (icells (l ++ List.replicate m S))
      rw [icells_append, List.length_append, List.length_replicate]; exact h1) h2
theorem equalIn_nil (P : Program) (w : World) (d : Nat) (t e : TypeId) (a : Addr) (n c : Nat) (h : P.underlying t = some (.slice e)) : (Op.equalIn (d + 1) t (.slice (some a) n c) (.slice none 0 0)).run P w = .ok false w := by
  simp [Op.equalIn, run_underlying h]
theorem eql_nil (P : Program) (w : World) (t e : TypeId) (a : Addr) (n c : Nat) (h : P.underlying t = some (.slice e)) : (binOp .eql t (.slice (some a) n c) (.slice none 0 0)).run P w = .ok (.bool false) w := by
  simp only [binOp]
  simp [Op.equal, Op.maxDepth, equalIn_nil P w 9999 t e a n c h]
theorem iown_empty (w : World) : IOwn (w.alloc (.cells #[] 3)) w.heap.size (.slice (some ⟨w.heap.size, 0, none⟩) 0 0) [] :=
  ⟨rfl, .inr ⟨w.heap.size, 0, #[], rfl, Nat.le_refl _, by simpa using heap_alloc_new w (.cells #[] 3), Nat.le_refl _, by simp only [maxLen]; omega, rfl, rfl⟩⟩
/-- A copy of m numbers S. -/
def ClonePost (m : Nat) (S : Int) (w : World) (e : Ending) (w' : World) : Prop := ∃ (A : Option Addr) (c : Nat), e = .returned (.slice A m c) ∧ SRd w' w'.heap.size A m S ∧ Below w.heap.size w w'
set_option maxRecDepth 100000 in
set_option linter.unusedSimpArgs false in
set_option linter.unusedVariables false in
set_option maxHeartbeats 4000000 in
theorem clone_span (A : Option Addr) (m c : Nat) (h0 : 0 < m) (hm : m ≤ 100) (S : Int) (w : World) (hR : SRd w w.heap.size A m S) : Calls Tryz.prog 70 #[.slice A m c] w (ClonePost m S w) := by
  obtain ⟨b, off, rfl, hb, hc⟩ := hR h0
  have HR := Lib.hid hR
  clear hR hc
  go_enter Tryz.func70, Tryz.ntmps70
  have hcmp := eql_nil Tryz.prog w 25 3 ⟨b, off, none⟩ m c Tryz.underlying25
  have hR2 := Lib.hid (show SRd (w.alloc (.cells #[] 3)) (w.alloc (.cells #[] 3)).heap.size (some ⟨b, off, none⟩) m S from Rd.more (Rd.alloc HR.out (Nat.le_refl _) _) (by simp))
  have hbs : w.heap.size ≤ (w.alloc (.cells #[] 3)).heap.size := by simp
  go_wp2_with (at_builtin; refine app_span rfl _ _ rfl w.heap.size (.slice (some ⟨w.heap.size, 0, none⟩) 0 0) [] rfl (iown_empty w) (some ⟨b, off, none⟩) m c S hR2.out rfl (by simp; omega) hbs ?_; intro v7 w7 hown7 hg7)
  go_ret
  obtain ⟨A, c2, rfl, -, -, hrd⟩ := IOwn.shape hown7
  have e : ([] ++ List.replicate m S).length = m := by simp
  rw [e] at hrd
  refine ⟨A, c2, by simp only [List.nil_append, List.length_replicate]; rfl, ?_, hg7.alloc_first.below (Nat.le_refl _) (fun k e => by simp [Value.ownBlock] at e; omega)⟩
  refine Rd.congr hrd fun k hk => ?_
  simp [List.getD_eq_getElem?_getD, List.getElem?_replicate, hk]
/-- How many numbers S are at least the gap: the least number of them, or one more than there are. -/
structure MgOk (gap S : Int) (m v : Nat) : Prop where
  few : v ≤ m + 1
  less : ∀ u : Nat, u < v → u ≤ m → (u : Int) * S < gap
  enough : v ≤ m → gap ≤ (v : Int) * S
def MgPost (gap S : Int) (m : Nat) (w : World) (e : Ending) (w' : World) : Prop := ∃ v : Nat, e = .returned (.tuple #[.int .i64 v, .int .i64 0]) ∧ MgOk gap S m v ∧ Below w.heap.size w w'
set_option maxRecDepth 100000 in
set_option linter.unusedSimpArgs false in
set_option linter.unusedVariables false in
set_option maxHeartbeats 4000000 in
theorem margin_ok (gap S : Int) (hg : 0 ≤ gap ∧ gap ≤ 1099511627776) (hS : 1 ≤ S ∧ S ≤ 1048576) (A : Option Addr) (m c : Nat) (h0 : 0 < m) (hm : m ≤ 12) (w : World) (hR : SRd w w.heap.size A m S) :
    Calls Tryz.prog 40 #[.int .i64 gap, .slice A m c] w (MgPost gap S m w) := by
  have HC := Lib.hid (containsF_span A m c (by omega) S ⟨by omega, hS.2⟩ w hR)
  have HK := Lib.hid (fun W (h : Below w.heap.size w W) => clone_span A m c h0 (by omega) S W (Rd.more (Rd.below hR h) h.size))
  have g0 : decide ((4096 : Int) < (m : Int)) = false := decide_eq_false (by omega)
  have g0n : decide (4096 < m) = false := decide_eq_false (by omega)
  clear hR
  go_enter Tryz.func40, Tryz.ntmps40
  go_wp2_with fail
  refine (within_ok gap 1099511627776 hg.1 hg.2 w).mono ?_
  rintro e w1 ⟨rfl, rfl⟩
  go_wp2_with fail
  refine HC.out.mono ?_
  rintro e w1 ⟨rfl, hb1⟩
  have HK1 := Lib.hid (HK.out w1 hb1)
  have HB1 := Lib.hid hb1
  clear hb1 HC HK
  go_wp2_with fail
  refine HK1.out.mono ?_
  rintro e w2 ⟨A2, c2, rfl, hR2, hb2⟩
  have HR2 := Lib.hid hR2
  have HB2 := Lib.hid (HB1.out.trans (hb2.mono HB1.out.size))
  have HSO := Lib.hid (sortF_same A2 m c2 hm S w2 hR2)
  clear hR2 hb2 HB1 HK1
  go_wp2_with fail
  refine HSO.out.mono ?_
  rintro e w3 ⟨rfl, hb3⟩
  have HR3 := Lib.hid (show SRd w3 w3.heap.size A2 m S from Rd.more (Rd.below HR2.out hb3) hb3.size)
  have HB3 := Lib.hid (HB2.out.trans (hb3.mono HB2.out.size))
  clear hb3 HSO HR2 HB2
  go_wp2_with fail
  go_loopw [4, 7] (fun v s wr => ∃ u : Nat, u ≤ m ∧ v = .int .i64 u ∧ s = .int .i64 ((u : Int) * S) ∧ (∀ x : Nat, x < u → (x : Int) * S < gap) ∧ wr = w3) (fun v _ _ => m + 1 - (intOf v).toNat)
  case atStart => exact ⟨0, by omega, rfl, by simp, fun x h => by omega, rfl⟩
  case round =>
    obtain ⟨u, hu, rfl, rfl, hx, rfl⟩ := hrel
    have HX := Lib.hid hx
    clear hx
    obtain ⟨s, hs⟩ : ∃ y, y = (u : Int) * S := ⟨_, rfl⟩
    rw [← hs]
    have hsr : 0 ≤ s ∧ s ≤ 12582912 := by
      rw [hs]
      have h1 : (u : Int) * S ≤ (u : Int) * 1048576 := Int.mul_le_mul_of_nonneg_left hS.2 (by omega)
      have h2 : 0 ≤ (u : Int) * S := Int.mul_nonneg (by omega) (by omega)
      omega
    have HS := Lib.hid hs
    clear hs
    rcases Int.lt_or_le s gap with hlt | hge
    · have g1 : decide (s < gap) = true := decide_eq_true hlt
      have HLT := Lib.hid hlt
      rcases Nat.lt_or_ge u m with hum | hum
      · have g2 : ((u : Int) == (m : Int)) = false := beq_eq_false_iff_ne.2 (by omega)
        have g2n : (u == m) = false := beq_eq_false_iff_ne.2 (by omega)
        have g2p : ¬ u = m := by omega
        obtain ⟨b, off, rfl, hbl, hc⟩ := HR3.out.at_ (k := u) hum
        obtain ⟨s2, hs2⟩ : ∃ y, y = s + S := ⟨_, rfl⟩
        have hs3 : s + S = s2 := hs2.symm
        have hs2r : 0 ≤ s2 ∧ s2 ≤ 20000000 := by omega
        have HS2 := Lib.hid hs2
        clear hs2
        go_wp2_with fail
        go_roundw
        case rel =>
          refine ⟨u + 1, by omega, by go_num, ?_, (fun x hx => ?_), trivial⟩
          · congr 1
            rw [HS2.out, HS.out]
            have e : ((u + 1 : Nat) : Int) = (u : Int) + 1 := by omega
            rw [e, Int.add_mul, Int.one_mul]
          · rcases Nat.lt_or_ge x u with h | h
            · exact HX.out x h
            · obtain rfl : x = u := by omega
              rw [← HS.out]; exact HLT.out
        case measure => simp [intOf]; omega
      · obtain rfl : u = m := by omega
        go_wp2_with fail
        go_ret2
        refine ⟨u + 1, by go_num, ⟨Nat.le_refl _, fun x h1 h2 => ?_, fun h => by omega⟩, HB3.out⟩
        rcases Nat.lt_or_ge x u with h | h
        · exact HX.out x h
        · obtain rfl : x = u := by omega
          rw [← HS.out]; exact HLT.out
    · have g1 : decide (s < gap) = false := decide_eq_false (by omega)
      go_wp2_with fail
      go_ret2
      exact ⟨u, rfl, ⟨by omega, fun x h1 _ => HX.out x h1, fun _ => by rw [← HS.out]; exact hge⟩, HB3.out⟩
end Go.Proofs.YtkkcbkfpaoldmaaGreatDoor

/- Parts of slices of ints; rows of ints laid behind others; plain laws of the division by search. -/
namespace Go.Proofs.YtkkcbkfpaoldmaaGreatDoor
open Go Go.RowKit

/-- Where the part from i on begins. -/
def partA (A : Option Addr) (c i : Nat) : Option Addr := if c = i then A else A.map (·.add i)
theorem partA_rd {w : World} {B : Nat} {A : Option Addr} {n c i j : Nat} {f : Nat → Value} (h : Rd w B A n f) (hij : i ≤ j) (hj : j ≤ n) (hc : n ≤ c) : Rd w B (partA A c i) (j - i) (fun k => f (i + k)) := fun h0 => by
  obtain ⟨b, off, rfl, hb, hk⟩ := h (by omega)
  refine ⟨b, off + i, ?_, hb, fun k hk2 => ?_⟩
  · rw [partA, if_neg (by omega)]
    simp [Addr.add_mid]
  · rw [Nat.add_assoc]
    exact hk (i + k) (by omega)
set_option linter.unusedSimpArgs false in
theorem slice_lo (A : Option Addr) (n c i : Nat) (hi : i ≤ n) (hc : n ≤ c) (W : World) : (Instr.slice 25 (.slice A n c) (some (.int .i64 (i : Int))) none none).run Tryz.prog W = .ok (.slice (partA A c i) (n - i) (c - i)) W := by
  have h1 : i ≤ c := by omega
  unfold partA
  by_cases e : c = i
  · simp [Instr.slice, run_underlying Tryz.underlying25, Instr.sliceBounds, Instr.sliceBound, asIntOf, h1, hi, hc, e, iInfo_size]
  · simp [Instr.slice, run_underlying Tryz.underlying25, Instr.sliceBounds, Instr.sliceBound, asIntOf, h1, hi, hc, e, iInfo_size]
set_option linter.unusedSimpArgs false in
theorem slice_hi (A : Option Addr) (n c j : Nat) (hj : j ≤ n) (hc : n ≤ c) (W : World) : (Instr.slice 25 (.slice A n c) none (some (.int .i64 (j : Int))) none).run Tryz.prog W = .ok (.slice (partA A c 0) j c) W := by
  have h1 : j ≤ c := by omega
  unfold partA
  by_cases e : c = 0
  · simp [Instr.slice, run_underlying Tryz.underlying25, Instr.sliceBounds, Instr.sliceBound, asIntOf, h1, hj, hc, e, iInfo_size]
    omega
  · simp [Instr.slice, run_underlying Tryz.underlying25, Instr.sliceBounds, Instr.sliceBound, asIntOf, h1, hj, hc, e, iInfo_size]
set_option linter.unusedSimpArgs false in
theorem slice_lohi (A : Option Addr) (n c i j : Nat) (hij : i ≤ j) (hj : j ≤ n) (hc : n ≤ c) (W : World) : (Instr.slice 25 (.slice A n c) (some (.int .i64 (i : Int))) (some (.int .i64 (j : Int))) none).run Tryz.prog W = .ok (.slice (partA A c i) (j - i) (c - i)) W := by
  have h1 : j ≤ c := by omega
  have h2 : i ≤ c := by omega
  unfold partA
  by_cases e : c = i
  · simp [Instr.slice, run_underlying Tryz.underlying25, Instr.sliceBounds, Instr.sliceBound, asIntOf, h1, h2, hj, hc, hij, e, iInfo_size]
    intro hh
    exact absurd hh (by omega)
  · simp [Instr.slice, run_underlying Tryz.underlying25, Instr.sliceBounds, Instr.sliceBound, asIntOf, h1, h2, hj, hc, hij, e, iInfo_size]
/-- Ints that lie somewhere are put behind a row of the call's own. -/
theorem app_many {ops : Array Oper} {rest : List Oper} {o : Oper} {a : Act} {Q : Exit → Act → World → Prop} (hgd : o.guard = none) (s x : Operand) (ho : o.op = .call { callee := .builtin .append, args := #[s, x], argTypes := #[25, 25] })
    (base : Nat) {w : World} (v : Value) (l : List Int) (hs : a.eval s = v) (hown : IOwn w base v l) (A : Option Addr) (m : List Int) (n c : Nat) (hn : m.length = n) (hm : Rd w w.heap.size A n (fun k => .int .i64 (m.getD k 0)))
    (hx : a.eval x = .slice A n c) (h47 : l.length + n ≤ 1000000000000) (hbase : base ≤ w.heap.size)
    (h : ∀ v' w', IOwn w' base v' (l ++ m) → Grew w w' v v' → wpList Tryz.prog ops Q rest (a.put o.dst v') w') : wpList Tryz.prog ops Q (o :: rest) a w := by
  subst hn
  have hsrc : Src Tryz.prog 1 25 (.slice A m.length c) m.length (icells m) w := by
    have h1 := src_rd (P := Tryz.prog) w (size := 1) (tx := 25) (n := m.length) (c := c) (A := A) (f := fun k => .int .i64 (m.getD k 0)) Tryz.underlying25 (by rw [Nat.mul_one]; exact hm) (by omega) (fun k _ => rfl)
    have e : (List.range (m.length * 1)).map (fun k => Value.int .i64 (m.getD k 0)) = icells m := by
      apply List.ext_getElem?
      intro k
      by_cases hk : k < m.length
      · rw [icells_get m k hk]
        simp [hk]
      · simp [icells, hk]
    rw [e] at h1
    exact h1
  exact wpList_append_src w hgd s x 25 25 ho base 3 iInfo (.int .i64 0) 1 8 Tryz.underlying25 iInfo_eq iInfo_zero iInfo_size iInfo_bytes rfl v l.length (icells l) hs hown _ m.length (icells m) hx hsrc
    (by simp only [maxLen]; omega) (by omega) hbase fun v' w' h1 h2 => h v' w' (by
      show World.ownsRow w' base 3 1 v' (l ++ m).length (icells (l ++ m))
      rw [icells_append, List.length_append]; exact h1) h2
theorem topU_cons (a : List Int) (i n : Nat) : topU a i (n + 1) = dg a i + 1073741824 * topU a (i + 1) n := by
  unfold topU
  rw [Nat.add_comm n 1, dsum_split]
  have e1 : dsum (fun j => dg a (i + j)) 1 = dg a i := by simp [dsum, bp]
  have e2 : bp 1 = 1073741824 := by simp [bp]
  rw [e1, e2]
  congr 2
  exact dsum_congr fun j _ => by rw [Nat.add_assoc]
theorem valL_cons (x : Int) (l : List Int) : valL (x :: l) = x + 1073741824 * valL l := by
  have h := topU_cons (x :: l) 0 l.length
  have e1 : topU (x :: l) 0 (l.length + 1) = valL (x :: l) := dsum_congr fun j _ => by rw [Nat.zero_add]
  have e2 : topU (x :: l) (0 + 1) l.length = valL l := dsum_congr fun j _ => by
    rw [Nat.zero_add, Nat.add_comm]
    simp [dg]
  rw [e1, e2] at h
  rw [h]
  simp [dg]
theorem valL_drop (a : List Int) (i : Nat) : valL (a.drop i) = topU a i (a.length - i) := by
  rw [valL, List.length_drop]
  exact dsum_congr fun j _ => by simp [dg]
theorem digL_cons {x : Int} {l : List Int} (hx : 0 ≤ x ∧ x < 1073741824) (hl : DigL l) : DigL (x :: l) := fun y hy => by
  rcases List.mem_cons.1 hy with h | h
  · rw [h]; exact hx
  · exact hl y h
theorem digL_drop {l : List Int} (hl : DigL l) (i : Nat) : DigL (l.drop i) := fun y hy => hl y (List.mem_of_mem_drop hy)
/-- The rest before round i: of what lies above place i. -/
def restAt (a : List Int) (b : Int) (i : Nat) : Int := topU a i (a.length - i) % b
theorem restAt_step (a : List Int) (b : Int) (i : Nat) (h : i < a.length) : (dg a i + 1073741824 * restAt a b (i + 1)) % b = restAt a b i := by
  unfold restAt
  obtain ⟨n, hn⟩ : ∃ n, a.length - i = n + 1 := ⟨a.length - i - 1, by omega⟩
  have e : a.length - (i + 1) = n := by omega
  rw [hn, e, topU_cons]
  rw [Int.add_emod, Int.mul_emod, Int.emod_emod, ← Int.mul_emod, ← Int.add_emod]
theorem restAt_zero (a : List Int) (b : Int) : restAt a b 0 = valL a % b := by
  unfold restAt
  rw [Nat.sub_zero]
  congr 1
  exact dsum_congr fun j _ => by rw [Nat.zero_add]
theorem restAt_small (a : List Int) (hda : DigL a) (b : Int) (i n : Nat) (h1 : a.length - i ≤ n) (h2 : bp n ≤ b) : restAt a b i = topU a i (a.length - i) := by
  unfold restAt
  have h := topU_range (L := a) (i := i) (n := a.length - i) (hda.digs _)
  have h3 := bp_mono h1
  exact Int.emod_eq_of_lt h.1 (by omega)
/-- The middle of a search. -/
theorem mid_range {lo hi : Int} (h0 : 0 ≤ lo) (h : lo < hi) : lo < (lo + hi + 1).tdiv 2 ∧ (lo + hi + 1).tdiv 2 ≤ hi := by
  rw [Int.tdiv_eq_ediv_of_nonneg (by omega)]
  omega
end Go.Proofs.YtkkcbkfpaoldmaaGreatDoor

/- Walk: podiumref09.divide. -/
namespace Go.Proofs.YtkkcbkfpaoldmaaGreatDoor
open Go Go.RowKit

/-- A quotient, and the rest. -/
def QrPost (v : Int) (w : World) (e : Ending) (w' : World) : Prop :=
  ∃ (l : List Int) (Q : Value) (A : Option Addr) (n c : Nat), e = .returned (.tuple #[Q, .slice A n c]) ∧ BigOk w' w'.heap.size false A n c l ∧ valL l = v ∧ Below w.heap.size w w'
theorem iown_none (w : World) : IOwn (w.alloc (.cells #[] 3)) w.heap.size (.slice (some ⟨w.heap.size, 0, none⟩) 0 0) [] :=
  ⟨rfl, .inr ⟨w.heap.size, 0, #[], rfl, Nat.le_refl _, by
      have h := heap_alloc_new w (.cells #[] 3)
      simpa using h, Nat.le_refl _, by simp only [maxLen]; omega, rfl, rfl⟩⟩
theorem iown_one (w : World) (x : Int) : IOwn (w.alloc (.cells #[.int .i64 x] 3)) w.heap.size (.slice (some ⟨w.heap.size, 0, none⟩) 1 1) [x] :=
  ⟨rfl, .inr ⟨w.heap.size, 1, #[.int .i64 x], rfl, Nat.le_refl _, by
      have h := heap_alloc_new w (.cells #[.int .i64 x] 3)
      simpa using h, Nat.le_refl _, by simp only [maxLen]; omega, rfl, rfl⟩⟩
theorem mrd_one {w : World} {g : Nat} {t : TypeId} {x : Int} (h : Blk w g t #[.int .i64 x]) : MRd w w.heap.size (some ⟨g, 0, none⟩) [x] := fun _ => ⟨g, 0, rfl, h.lt, fun k hk => by
  obtain rfl : k = 0 := by simp at hk; omega
  exact h.cell 0⟩
theorem new_below {w w7 : World} {o : Obj} {n m : Nat} {v7 : Value} (hg : Grew (w.alloc o) w7 (.slice (some ⟨w.heap.size, 0, none⟩) n m) v7) : Below w.heap.size w w7 :=
  hg.alloc_first.below (Nat.le_refl _) fun g e => by
    have h : w.heap.size = g := by simpa [Value.ownBlock] using e
    omega
theorem BigOk.lrd {w : World} {B : Nat} {neg : Bool} {A : Option Addr} {n c : Nat} {l : List Int} (h : BigOk w B neg A n c l) : Rd w B A n (fun k => .int .i64 (l.getD k 0)) := by
  have := h.rd
  unfold MRd at this
  rw [← h.len] at this
  exact this
theorem len_le_of_val {l m : List Int} (hl : DigL l) (tl : TrimL l) (hm : DigL m) (h : valL l ≤ valL m) : l.length ≤ m.length := by
  rcases Nat.lt_or_ge m.length l.length with h1 | h1
  · have := valL_lt_len hm hl tl h1
    omega
  · exact h1
theorem val_single (x : Int) : valL [x] = x := by simp [valL, dsum, bp, dg]
theorem sgn_neg_iff (x : Int) : sgn x < 0 ↔ x < 0 := by
  unfold sgn
  split
  · omega
  · split <;> omega
theorem sgn_pos_iff (x : Int) : sgn x ≤ 0 ↔ x ≤ 0 := by
  unfold sgn
  split
  · omega
  · split <;> omega
theorem own_far {w : World} {base n c : Nat} {A : Option Addr} {l : List Int} (h : IOwn w base (.slice A n c) l) (p : Addr) (e : A = some p) : base ≤ p.block := by
  rcases h.2 with ⟨e2, h0⟩ | ⟨g, cap, cur, e2, hb, -⟩
  · simp only [Value.slice.injEq] at e2
    rw [e2.1] at e
    cases e
  · simp only [Value.slice.injEq] at e2
    rw [e2.1] at e
    cases e
    exact hb
theorem mrd_setfar {w : World} {B g s : Nat} {A : Option Addr} {l : List Int} {v : Value} (h : MRd w B A l) (hf : ∀ p, A = some p → g < p.block) : MRd (w.setCell ⟨g, s, none⟩ v) B A l := fun hl => by
  obtain ⟨b, off, e, hb, hc⟩ := h hl
  refine ⟨b, off, e, hb, fun k hk => ?_⟩
  have h1 := hf _ e
  exact (World.cell?_setCell_other _ _ _ _ (fun e2 => by have := congrArg Addr.block e2; simp at this h1; omega)).trans (hc k hk)
theorem mod_of {R vb lo : Int} (h3 : lo * vb ≤ R) (h4 : R < (lo + 1) * vb) : R - lo * vb = R % vb := by
  have e : R = (R - lo * vb) + lo * vb := by omega
  have h5 : (lo + 1) * vb = lo * vb + vb := by grind
  rw [e, Int.add_mul_emod_self_right, Int.sub_add_cancel]
  exact (Int.emod_eq_of_lt (by omega) (by omega)).symm
set_option maxRecDepth 100000 in
set_option linter.unusedSimpArgs false in
set_option linter.unusedVariables false in
set_option maxHeartbeats 8000000 in
theorem rdivide_ok (A B : Option Addr) (a b : List Int) (la lb ca cb : Nat) (w : World) (ha : BigOk w w.heap.size false A la ca a) (hb : BigOk w w.heap.size false B lb cb b) (h0 : 0 < lb) (h1 : la ≤ 1000) (h2 : lb ≤ 1000) :
    Calls Tryz.prog 59 #[.slice A la ca, .slice B lb cb] w (QrPost (valL a % valL b) w) := by
  obtain ⟨st, hst⟩ : ∃ st : Nat, st = la + 1 - lb := ⟨_, rfl⟩
  have hmx : max (0 : Int) ((la : Int) - (lb : Int) + 1) = (st : Int) := by omega
  have hsl : ∀ W : World, (Instr.slice 25 (.slice A la ca) (some (.int .i64 (st : Int))) none none).run Tryz.prog W = .ok (.slice (partA A ca st) (la - st) (ca - st)) W := slice_lo A la ca st (by omega) ha.cap
  obtain ⟨vb, hvb⟩ : ∃ vb, vb = valL b := ⟨_, rfl⟩
  have hvb0 : 0 < vb := by rw [hvb]; exact hb.pos h0
  have HTOP := Lib.hid (show bp (lb - 1) ≤ vb by rw [hvb]; exact valL_top hb.dig hb.trim (by rw [← hb.len]; omega))
  have HA := Lib.hid ha
  have HB := Lib.hid hb
  have HVB := Lib.hid hvb
  have HST := Lib.hid hst
  have hstla : st ≤ la := by omega
  have HLA := Lib.hid ha.len
  have hrest : valL a % valL b = restAt a vb 0 := by rw [restAt_zero, hvb]
  rw [hrest]
  clear ha hb hvb hst hrest
  go_enter Tryz.func59, Tryz.ntmps59
  go_upto_region 3 with (refine make_ints rfl _ rfl w.heap.size la rfl (by omega) (Nat.le_refl _) ?_; intro w1 hown1 hg1)
  have hB1 : Below w.heap.size w w1 := ⟨hg1.os, hg1.tape, hg1.output, hg1.size, fun i hi => hg1.block i hi (by simp)⟩
  have HR3 := Lib.hid (show Rd (w1.alloc (.cells #[] 3)) (w1.alloc (.cells #[] 3)).heap.size (partA A ca st) (la - st) (fun k => .int .i64 ((a.drop st).getD k 0)) from by
    have hb1 : Below w.heap.size w (w1.alloc (.cells #[] 3)) := hB1.alloc hg1.size _
    have h := partA_rd (i := st) (j := la) (((HA.out.below hb1).more hb1.size).lrd) hstla (Nat.le_refl _) HA.out.cap
    refine Rd.congr h fun k hk => ?_
    simp)
  have hdl : (a.drop st).length = la - st := by rw [List.length_drop, ← HLA.out]
  have hdm : ([] : List Int).length + (la - st) ≤ 1000000000000 := by simp only [List.length_nil]; omega
  have HO1 := Lib.hid hown1
  have hsz1 : w1.heap.size ≤ (w1.alloc (.cells #[] 3)).heap.size := by simp
  clear hg1 hown1
  go_wp2_with (at_builtin; refine app_many rfl _ _ rfl w1.heap.size (.slice (some ⟨w1.heap.size, 0, none⟩) 0 0) [] rfl (iown_none w1) (partA A ca st) (a.drop st) (la - st) (ca - st) hdl HR3.out rfl hdm hsz1 ?_; intro v7 w7 hown7 hg7)
  rw [List.nil_append] at hown7
  have hb17 := new_below hg7
  obtain ⟨A7, c7, e7, k71, k72, -⟩ := hown7.shape
  rw [hdl] at e7 k71
  subst e7
  have HT := Lib.hid (rtrim_any A7 (a.drop st) (la - st) c7 hdl.symm k71 k72 (by omega) w7 (hown7.mrd hdl))
  have hB7 := hB1.trans (hb17.mono hB1.size)
  have HQ7 := Lib.hid (IOwn.below HO1.out hb17)
  have hD7 := digL_drop HA.out.dig st
  have hlt7 := tlen_le (a.drop st) (la - st)
  have HR7 := Lib.hid (bigOk_own hown7 hdl hD7 (by omega))
  have HV7 := Lib.hid (show valL (trimmed (a.drop st)) = restAt a vb st by
    rw [trimmed_val, valL_drop, restAt_small a HA.out.dig vb st (lb - 1) (by have h1 := HST.out; have h2 := HLA.out; omega) HTOP.out])
  obtain ⟨n7, hn7⟩ : ∃ n7, n7 = tlen (a.drop st) (la - st) := ⟨_, rfl⟩
  rw [← hn7] at HT HR7 hlt7
  obtain ⟨r7, hr7⟩ : ∃ r7, r7 = trimmed (a.drop st) := ⟨_, rfl⟩
  rw [← hr7] at HR7 HV7
  clear hg7 hown7 hb17 hD7 hn7 hr7 HR3 HO1 hdl hdm hsz1 hB1 hsl
  refine HT.out.mono ?_
  rintro e w8 ⟨rfl, hb8⟩
  have HR8 := Lib.hid ((HR7.out.below hb8).more hb8.size)
  have HQ8 := Lib.hid (IOwn.below HQ7.out hb8)
  have hB8 := hB7.trans (hb8.mono hB7.size)
  obtain ⟨g, hg⟩ : ∃ g, g = w.heap.size := ⟨_, rfl⟩
  rw [← hg] at HQ8 ⊢
  have hBg : Below g w w8 := by rw [hg]; exact hB8
  have HG := Lib.hid hg
  clear HT HR7 HQ7 hB7 hB8 hb8 hg
  go_wp2_with fail
  go_loopw [8, 9] (fun rv iv wr => ∃ (i : Nat) (L r : List Int) (Ar : Option Addr) (n c : Nat), i ≤ st ∧ iv = .int .i64 ((i : Int) - 1) ∧ rv = .slice Ar n c ∧ BigOk wr wr.heap.size false Ar n c r ∧ valL r = restAt a vb i ∧ IOwn wr g (.slice (some ⟨g, 0, none⟩) la la) L ∧ L.length = la ∧ Below g w wr) (fun _ iv _ => (intOf iv + 1).toNat)
  case atStart => exact ⟨st, List.replicate la 0, r7, A7, n7, c7, Nat.le_refl _, rfl, rfl, HR8.out, HV7.out, HQ8.out, by simp, hBg⟩
  case round =>
    clear HR8 HQ8 hBg HV7
    obtain ⟨i, L, r, Ar, n, c, hi, rfl, rfl, hR, hV, hQ, hL, hB⟩ := hrel
    have HR := Lib.hid hR
    have HV := Lib.hid hV
    have HQ := Lib.hid hQ
    have HBB := Lib.hid hB
    have HL := Lib.hid hL
    have hBw : Below w.heap.size w wr := by rw [← HG.out]; exact hB
    clear hR hV hQ hB hL
    rcases Nat.eq_zero_or_pos i with rfl | h0i
    · rw [show ((0 : Nat) : Int) - 1 = -1 from rfl]
      have HT := Lib.hid (rtrim_any (some ⟨g, 0, none⟩) L la la HL.out.symm (Nat.le_refl _) (by omega) (by omega) wr (mrd_own HQ.out HL.out))
      go_wp2_with fail
      refine HT.out.mono ?_
      rintro e w2 ⟨rfl, hb2⟩
      go_wp2_with fail
      go_ret2
      exact ⟨r, _, Ar, n, c, rfl, (HR.out.below hb2).more hb2.size, HV.out, hBw.trans (hb2.mono hBw.size)⟩
    · obtain ⟨s, rfl⟩ : ∃ s, i = s + 1 := ⟨i - 1, by omega⟩
      have hs1 : ((s + 1 : Nat) : Int) - 1 = (s : Int) := by omega
      rw [hs1]
      have g0 : decide ((0 : Int) ≤ (s : Int)) = true := decide_eq_true (by omega)
      have hsa : s < la := by omega
      obtain ⟨ba, oa, rfl, hba, hca⟩ := (HA.out.lrd.below hBw).at_ (k := s) hsa
      obtain ⟨x, hx⟩ : ∃ x, x = dg a s := ⟨_, rfl⟩
      rw [show a.getD s 0 = x from hx.symm] at hca
      have hxr := HA.out.dig.digs (s + 1) s (by omega)
      rw [← hx] at hxr
      have HX := Lib.hid hx
      have HRD := Lib.hid (show Rd (wr.alloc (.cells #[.int .i64 x] 3)) (wr.alloc (.cells #[.int .i64 x] 3)).heap.size Ar n (fun k => .int .i64 (r.getD k 0)) from (HR.out.lrd.alloc (Nat.le_refl _) _).more (by simp))
      have hrl : r.length = n := HR.out.len.symm
      have hnf := HR.out.few
      have hdm : ([x] : List Int).length + n ≤ 1000000000000 := by simp only [List.length_cons, List.length_nil]; omega
      have hsz1 : wr.heap.size ≤ (wr.alloc (.cells #[.int .i64 x] 3)).heap.size := by simp
      clear hx hs1
      go_wp2_with (at_builtin; refine app_many rfl _ _ rfl wr.heap.size (.slice (some ⟨wr.heap.size, 0, none⟩) 1 1) [x] rfl (iown_one wr x) Ar r n c hrl HRD.out rfl hdm hsz1 ?_; intro v7 w7 hown7 hg7)
      rw [List.singleton_append] at hown7
      have hb7 := new_below hg7
      have hcl : (x :: r).length = n + 1 := by rw [List.length_cons, hrl]
      obtain ⟨A8, c8, e8, k81, k82, -⟩ := hown7.shape
      rw [hcl] at e8 k81
      subst e8
      have HT := Lib.hid (rtrim_any A8 (x :: r) (n + 1) c8 hcl.symm k81 k82 (by omega) w7 (hown7.mrd hcl))
      have hB7 := HBB.out.trans (hb7.mono (by have h1 := HBB.out.size; have h2 := HG.out; omega))
      have HQ7 := Lib.hid (IOwn.below HQ.out hb7)
      have HF8 := Lib.hid (show ∀ p, A8 = some p → g < p.block from fun p e => Nat.lt_of_lt_of_le (World.ownsRow.lt HQ.out g rfl).2 (own_far hown7 p e))
      have hD7 := digL_cons hxr HR.out.dig
      have HVX := Lib.hid (show valL (trimmed (x :: r)) = x + 1073741824 * restAt a vb (s + 1) by rw [trimmed_val, valL_cons, HV.out])
      have hrr : 0 ≤ restAt a vb (s + 1) ∧ restAt a vb (s + 1) < vb := ⟨Int.emod_nonneg _ (by omega), Int.emod_lt_of_pos _ hvb0⟩
      have HST2 := Lib.hid (restAt_step a vb s (by rw [← HLA.out]; exact hsa))
      obtain ⟨R, hR⟩ : ∃ R, R = x + 1073741824 * restAt a vb (s + 1) := ⟨_, rfl⟩
      rw [← hR] at HVX
      rw [← HX.out, ← hR] at HST2
      have hR0 : 0 ≤ R ∧ R < 1073741824 * vb := by omega
      have hlt8 := tlen_le (x :: r) (n + 1)
      have hn1 : n + 1 ≤ 2048 := by
        have h1 := len_le_of_val HR.out.dig HR.out.trim HB.out.dig (by rw [HV.out, ← HVB.out]; omega)
        have h2 := HB.out.len
        omega
      have HR8 := Lib.hid (bigOk_own hown7 hcl hD7 (by omega))
      obtain ⟨n8, hn8⟩ : ∃ n8, n8 = tlen (x :: r) (n + 1) := ⟨_, rfl⟩
      rw [← hn8] at HT HR8 hlt8
      obtain ⟨r8, hr8⟩ : ∃ r8, r8 = trimmed (x :: r) := ⟨_, rfl⟩
      rw [← hr8] at HR8 HVX
      clear hg7 hown7 hD7 hn8 hr8 HRD hdm hsz1 hcl hR HX hrr HQ HV hca
      refine HT.out.mono ?_
      rintro e w9 ⟨rfl, hb9⟩
      have HR9 := Lib.hid ((HR8.out.below hb9).more hb9.size)
      have HQ9 := Lib.hid (IOwn.below HQ7.out hb9)
      have hB9 := hB7.trans (hb9.mono (by have h1 := hB7.size; have h2 := HG.out; omega))
      have hBw9 : Below w.heap.size w w9 := by rw [← HG.out]; exact hB9
      have HCM := Lib.hid (rcmp_any A8 B r8 b n8 lb c8 cb HR9.out.len HB.out.len (by have := HR9.out.few; omega) (by omega) HR9.out.dig HB.out.dig HR9.out.trim HB.out.trim w9 HR9.out.rd ((HB.out.below hBw9).more hBw9.size).rd)
      rw [HVX.out, ← HVB.out] at HCM
      obtain ⟨S, hS⟩ : ∃ S, S = sgn (R - vb) := ⟨_, rfl⟩
      rw [← hS] at HCM
      have HS := Lib.hid hS
      clear HT HR8 HQ7 hB7 hb7 hb9 hS hBw
      go_wp2_with fail
      refine HCM.out.mono ?_
      rintro e w10 ⟨rfl, hb10⟩
      have HR10 := Lib.hid ((HR9.out.below hb10).more hb10.size)
      have HQ10 := Lib.hid (IOwn.below HQ9.out hb10)
      have HB10 := Lib.hid (hB9.trans (hb10.mono (by have h1 := hB9.size; have h2 := HG.out; omega)))
      have hBw10 : Below w.heap.size w w10 := by rw [← HG.out]; exact HB10.out
      clear HR9 HQ9 hB9 hBw9 hb10 HCM HBB
      have hsw : wrap64 ((s : Int) - 1) = (s : Int) - 1 := wrap_in _ (by omega)
      by_cases hlt : R < vb
      · have g1 : decide (S < 0) = true := decide_eq_true (by rw [HS.out]; exact (sgn_neg_iff _).2 (by omega))
        have HE := Lib.hid (show valL r8 = restAt a vb s by rw [HVX.out, ← HST2.out]; exact (Int.emod_eq_of_lt hR0.1 hlt).symm)
        clear hlt
        go_wp2_with fail
        go_roundw
        case rel => exact ⟨s, L, r8, A8, n8, c8, by omega, rfl, rfl, HR10.out, HE.out, HQ10.out, HL.out, HB10.out⟩
        case measure => simp [intOf]; try omega
      · have g1 : decide (S < 0) = false := decide_eq_false (by rw [HS.out, sgn_neg_iff]; omega)
        have hge : vb ≤ R := by omega
        clear hlt
        go_wp2_with fail
        go_loopw [10, 11] (fun lv hv wr2 => ∃ (lo hi : Int), lv = .int .i64 lo ∧ hv = .int .i64 hi ∧ 0 ≤ lo ∧ lo ≤ hi ∧ hi ≤ 1073741823 ∧ lo * vb ≤ R ∧ R < (hi + 1) * vb ∧ Below w10.heap.size w10 wr2) (fun lv hv _ => (intOf hv - intOf lv).toNat)
        case atStart => exact ⟨0, 1073741823, rfl, rfl, by omega, by omega, by omega, by omega, by omega, Below.refl _ _⟩
        case round =>
          obtain ⟨lo, hi, rfl, rfl, hlo, hlh, hhi, h3, h4, hBi⟩ := hrel
          have hBwi : Below w.heap.size w wr := hBw10.trans (hBi.mono hBw10.size)
          have H3 := Lib.hid h3
          have H4 := Lib.hid h4
          clear h3 h4
          by_cases hlt : lo < hi
          · have g2 : decide (lo < hi) = true := decide_eq_true hlt
            obtain ⟨mid, hmid⟩ : ∃ mid, mid = (lo + hi + 1).tdiv 2 := ⟨_, rfl⟩
            have hmr := mid_range hlo hlt
            rw [← hmid] at hmr
            have f1 : (lo + hi + 1).tdiv 2 = mid := hmid.symm
            clear hmid hlt
            have HTM := Lib.hid (rtimes_any (some ⟨wr.heap.size, 0, none⟩) B [mid] b 1 lb 1 cb rfl HB.out.len (fun y hy => by rw [List.mem_singleton.1 hy]; omega) HB.out.dig (by omega) (by omega) (wr.alloc (.cells #[.int .i64 mid] 3)) (mrd_one (Blk.new _ _ _)) (((HB.out.below (hBwi.alloc hBwi.size _)).more (hBwi.alloc hBwi.size _).size).rd))
            rw [val_single, ← HVB.out] at HTM
            have HR10i := Lib.hid ((HR10.out.below hBi).more hBi.size)
            go_wp2_with fail
            refine HTM.out.mono ?_
            rintro e w12 ⟨l2, A2, c2, rfl, k1, k2, k3, hd2, ht2, hv2, hO2, hb2⟩
            have hcc : DigL (1073741823 :: b) ∧ mid * vb ≤ valL (1073741823 :: b) := by
              refine ⟨digL_cons (by omega) HB.out.dig, ?_⟩
              rw [valL_cons, ← HVB.out]
              have h6 : mid * vb ≤ 1073741824 * vb := Int.mul_le_mul_of_nonneg_right (by omega) (by omega)
              omega
            have hb12 : Below wr.heap.size wr w12 := ((Below.refl _ wr).alloc (Nat.le_refl _) _).trans (hb2.mono (by simp))
            have hn2 : l2.length ≤ 1000000 := by
              have h5 := len_le_of_val hd2 ht2 hcc.1 (by rw [hv2]; exact hcc.2)
              rw [List.length_cons] at h5
              have := HB.out.len
              omega
            have HCM := Lib.hid (rcmp_any A2 A8 l2 r8 l2.length n8 c2 c8 rfl HR10i.out.len hn2 (by have := HR10i.out.few; omega) hd2 HR10i.out.dig ht2 HR10i.out.trim w12 (hO2.mrd rfl) (((HR10i.out.rd).below hb12).more hb12.size))
            rw [hv2, HVX.out] at HCM
            obtain ⟨n2, hn2e⟩ : ∃ n2, n2 = l2.length := ⟨_, rfl⟩
            rw [← hn2e] at HCM ⊢
            obtain ⟨S2, hS2⟩ : ∃ S2, S2 = sgn (mid * vb - R) := ⟨_, rfl⟩
            rw [← hS2] at HCM
            have HS2 := Lib.hid hS2
            have HB12 := Lib.hid (hBi.trans (hb12.mono hBi.size))
            clear hd2 ht2 hv2 hO2 hb2 hn2e hS2 HR10i hb12 k1 k2 k3 hn2 HTM hBwi hcc
            go_wp2_with fail
            refine HCM.out.mono ?_
            rintro e w13 ⟨rfl, hb13⟩
            have hB13 := HB12.out.trans (hb13.mono HB12.out.size)
            clear hb13 HB12 HCM
            by_cases hle : mid * vb ≤ R
            · have g3 : decide (S2 ≤ 0) = true := decide_eq_true (by rw [HS2.out, sgn_pos_iff]; omega)
              have HLE := Lib.hid hle
              clear hle
              go_wp2_with fail
              go_roundw
              case rel => exact ⟨mid, hi, rfl, rfl, by omega, by omega, by omega, HLE.out, H4.out, hB13⟩
              case measure => simp [intOf]; omega
            · have g3 : decide (S2 ≤ 0) = false := decide_eq_false (by rw [HS2.out, sgn_pos_iff]; omega)
              have HLE := Lib.hid (show R < (mid - 1 + 1) * vb by rw [Int.sub_add_cancel]; omega)
              clear hle
              go_wp2_with fail
              go_roundw
              case rel => exact ⟨lo, mid - 1, rfl, rfl, by omega, by omega, by omega, H3.out, HLE.out, hB13⟩
              case measure => simp [intOf]; omega
          · obtain rfl : lo = hi := by omega
            have g2 : decide (lo < lo) = false := by simp
            have HQi := Lib.hid (IOwn.below HQ10.out hBi)
            have HBgi := Lib.hid (HB10.out.trans (hBi.mono (by have h1 := HB10.out.size; have h2 := HG.out; omega)))
            have HR10i := Lib.hid ((HR10.out.below hBi).more hBi.size)
            have cm := HQi.out.cellAt HL.out hsa
            have fm := HQi.out.frozenAt HL.out s
            obtain ⟨qs, hqs⟩ : ∃ qs, qs = L.getD s 0 := ⟨_, rfl⟩
            rw [← hqs] at cm
            have HE := Lib.hid (show R - lo * vb = restAt a vb s by rw [mod_of H3.out H4.out, HST2.out])
            clear hqs
            go_upto_region 17 with fail
            have hQ11 := (HQi.out.set HL.out s lo).1
            have hB11 : Below g w (wr.setCell ⟨g, s, none⟩ (.int .i64 lo)) := HQi.out.belowSet HBgi.out (Nat.le_refl _)
            have hM11 : MRd (wr.setCell ⟨g, s, none⟩ (.int .i64 lo)) (wr.setCell ⟨g, s, none⟩ (.int .i64 lo)).heap.size A8 r8 := by
              have h := mrd_setfar (v := .int .i64 lo) (s := s) HR10i.out.rd HF8.out
              simpa using h
            generalize wr.setCell ⟨g, s, none⟩ (.int .i64 lo) = W11 at hQ11 hB11 hM11 ⊢
            have HR11 := Lib.hid (BigOk.rdIn HR10i.out hM11)
            have HQ11 := Lib.hid hQ11
            have hBw11 : Below w.heap.size w W11 := by rw [← HG.out]; exact hB11
            have HTM := Lib.hid (rtimes_any (some ⟨W11.heap.size, 0, none⟩) B [lo] b 1 lb 1 cb rfl HB.out.len (fun y hy => by rw [List.mem_singleton.1 hy]; omega) HB.out.dig (by omega) (by omega) (W11.alloc (.cells #[.int .i64 lo] 3)) (mrd_one (Blk.new _ _ _)) (((HB.out.below (hBw11.alloc hBw11.size _)).more (hBw11.alloc hBw11.size _).size).rd))
            rw [val_single, ← HVB.out] at HTM
            clear hQ11 hM11 HQi HBgi HR10i cm fm hBwi
            go_wp2_with fail
            refine HTM.out.mono ?_
            rintro e w12 ⟨l2, A2, c2, rfl, k1, k2, k3, hd2, ht2, hv2, hO2, hb2⟩
            have hb12 : Below W11.heap.size W11 w12 := ((Below.refl _ W11).alloc (Nat.le_refl _) _).trans (hb2.mono (by simp))
            have hl2 : l2.length ≤ n8 := by
              rw [HR11.out.len]
              exact len_le_of_val hd2 ht2 HR11.out.dig (by rw [hv2, HVX.out]; exact H3.out)
            have HLS := Lib.hid (rless_any A8 A2 r8 l2 n8 l2.length c8 c2 HR11.out.len rfl HR11.out.dig hd2 HR11.out.few hl2 (by rw [hv2, HVX.out]; exact H3.out) w12 ((HR11.out.rd.below hb12).more hb12.size) (hO2.mrd rfl))
            rw [hv2, HVX.out, HE.out] at HLS
            obtain ⟨n2, hn2e⟩ : ∃ n2, n2 = l2.length := ⟨_, rfl⟩
            rw [← hn2e] at HLS ⊢
            have HQ12 := Lib.hid (IOwn.below HQ11.out hb12)
            have HB12 := Lib.hid (hB11.trans (hb12.mono (by have h1 := hB11.size; have h2 := HG.out; omega)))
            clear hd2 ht2 hv2 hO2 hb2 hn2e hl2 hb12 k1 k2 k3 hB11 hBw11 HQ11 HR11 HTM
            go_wp2_with fail
            refine HLS.out.mono ?_
            rintro e w13 ⟨l3, A3, c3, rfl, hr3, hv3, hb3⟩
            obtain ⟨n3, hn3⟩ : ∃ n3, n3 = l3.length := ⟨_, rfl⟩
            rw [← hn3] at hr3 ⊢
            have HR3 := Lib.hid hr3
            have HV3 := Lib.hid hv3
            have HQ13 := Lib.hid (IOwn.below HQ12.out hb3)
            have HB13 := Lib.hid (HB12.out.trans (hb3.mono (by have h1 := HB12.out.size; have h2 := HG.out; omega)))
            clear hr3 hv3 hb3 hn3
            go_wp2_with fail
            go_roundw
            case rel => exact ⟨s, L.set s lo, l3, A3, n3, c3, by omega, rfl, rfl, HR3.out, HV3.out, HQ13.out, by rw [List.length_set]; exact HL.out, HB13.out⟩
            case measure => simp [intOf]; try omega
end Go.Proofs.YtkkcbkfpaoldmaaGreatDoor

/- Walks: podiumref09.of with a sign, Mul, Gcd. -/
namespace Go.Proofs.YtkkcbkfpaoldmaaGreatDoor
open Go Go.RowKit

set_option maxRecDepth 100000 in
set_option linter.unusedSimpArgs false in
set_option linter.unusedVariables false in
set_option maxHeartbeats 4000000 in
theorem rof_neg (A : Option Addr) (l : List Int) (n c : Nat) (hn : n = l.length) (hc : n ≤ c) (hc2 : c ≤ 9223372036854775807) (hn2 : n ≤ 4611686018427387903) (hm : tlen l n ≤ 2048) (h0 : 0 < tlen l n) (w : World) (hR : MRd w w.heap.size A l) :
    Calls Tryz.prog 60 #[.bool true, .slice A n c] w (Ret (.tuple #[.agg #[.bool true, .slice A (tlen l n) c], .int .i64 0]) w) := by
  have HT := Lib.hid (fun W (hb : Below w.heap.size w W) => rtrim_any A l n c hn hc hc2 hn2 W ((hR.below hb).more hb.size))
  obtain ⟨m, hmm⟩ : ∃ m, m = tlen l n := ⟨_, rfl⟩
  rw [← hmm] at HT hm h0 ⊢
  have g1 : decide ((2048 : Int) < (m : Int)) = false := decide_eq_false (by omega)
  have g1n : decide (2048 < m) = false := decide_eq_false (by omega)
  have g2 : decide ((0 : Int) < (m : Int)) = true := decide_eq_true (by omega)
  have g2n : decide (0 < m) = true := decide_eq_true h0
  clear hR hn hc hc2 hmm
  go_enter Tryz.func60, Tryz.ntmps60
  go_wp2_with fail
  refine (HT.out _ ((Below.refl _ w).alloc (Nat.le_refl _) _)).mono ?_
  rintro e w1 ⟨rfl, hb1⟩
  have bz := (Blk.new w 27 #[.bool false, .slice none 0 0]).below hb1 (by simp)
  have hB1 : Below w.heap.size w w1 := ((Below.refl _ w).alloc (Nat.le_refl _) _).trans (hb1.mono (by simp))
  clear hb1
  go_wp2_with (refine store_big rfl _ _ rfl bz true A m c rfl rfl rfl ?_; intro w8 hD8 hO8 hz8)
  refine bodyPost_ret (results_row_tmp rfl _ _ w.heap.size 27 _ (0, 0) _ _ rfl rfl hD8 Tryz.underlying27 rfl bigSize) rfl ?_
  exact ⟨rfl, hB1.trans (hO8.toBelow hB1.size (Nat.le_refl _))⟩
/-- An integer with a sign, and no error. -/
def MPost (sg : Bool) (v : Int) (w : World) (e : Ending) (w' : World) : Prop :=
  ∃ (l : List Int) (A : Option Addr) (n c : Nat), e = .returned (.tuple #[.agg #[.bool sg, .slice A n c], .int .i64 0]) ∧ BigOk w' w'.heap.size sg A n c l ∧ valL l = v ∧ Below w.heap.size w w'
theorem tlen_full (l : List Int) (h : TrimL l) : tlen l l.length = l.length := by
  rcases Nat.eq_zero_or_pos l.length with h0 | h0
  · have := tlen_le l l.length; omega
  · obtain ⟨s, hs⟩ : ∃ s, l.length = s + 1 := ⟨l.length - 1, by omega⟩
    have h1 := h h0
    rw [hs] at h1 ⊢
    rw [tlen, if_neg (by simpa using h1)]
theorem digPost_rof {v : Int} {cb : Nat} {w : World} {e : Ending} {w' : World} (h : DigPost v cb w e w') : ∃ (l : List Int) (A : Option Addr) (n c : Nat), e = .returned (.slice A n c) ∧ n = l.length ∧ n ≤ c ∧ c ≤ cb ∧ (A = none → c = 0) ∧ DigL l ∧ TrimL l ∧ valL l = v ∧ MRd w' w'.heap.size A l ∧ tlen l n = n ∧ (n = 0 ↔ v = 0) ∧ Below w.heap.size w w' := by
  obtain ⟨l, A, c, rfl, k1, k2, k3, k4, k5, k6, k7, k8⟩ := h
  refine ⟨l, A, l.length, c, rfl, rfl, k1, k2, k3, k4, k5, k6, k7.mrd rfl, tlen_full l k5, ?_, k8⟩
  constructor
  · intro h0
    rw [← k6, List.length_eq_zero_iff.1 h0]; rfl
  · intro h0
    rcases Nat.eq_zero_or_pos l.length with h1 | h1
    · exact h1
    · have := hb_pos k4 k5 h1
      omega
theorem prod_bound {a b : List Int} (ha : DigL a) (hb : DigL b) (h1 : a.length ≤ 1000) (h2 : b.length ≤ 1000) : valL a * valL b < bp 2000 ∧ 0 ≤ valL a * valL b := by
  have ra := valL_range ha
  have rb := valL_range hb
  have m1 := bp_mono h1
  have m2 := bp_mono h2
  have e : bp 2000 = bp 1000 * bp 1000 := bp_add 1000 1000
  have p := bp_pos 1000
  refine ⟨?_, Int.mul_nonneg ra.1 rb.1⟩
  rw [e]
  generalize bp 1000 = M at *
  have h3 : valL a * valL b ≤ valL a * M := Int.mul_le_mul_of_nonneg_left (by omega) ra.1
  have h4 : valL a * M < M * M := Int.mul_lt_mul_of_pos_right (by omega) p
  omega
theorem len_small2 {l : List Int} (hd : DigL l) (ht : TrimL l) (h : valL l < bp 2000) : l.length ≤ 2048 := by
  rcases Nat.lt_or_ge 2048 l.length with h1 | h1
  · obtain ⟨n, hn⟩ : ∃ n, l.length = n + 1 := ⟨l.length - 1, by omega⟩
    have h2 := valL_top hd ht hn
    have h3 := bp_mono (show 2000 ≤ n by omega)
    generalize bp 2000 = M at *
    generalize bp n = M2 at *
    omega
  · exact h1
theorem BigOk.rdIn2 {w w' : World} {B : Nat} {neg : Bool} {A : Option Addr} {n c : Nat} {l : List Int} (h : BigOk w B neg A n c l) (hr : MRd w' w'.heap.size A l) : BigOk w' w'.heap.size neg A n c l := { h with rd := hr }
set_option maxRecDepth 100000 in
set_option linter.unusedSimpArgs false in
set_option linter.unusedVariables false in
set_option maxHeartbeats 4000000 in
theorem rMul9_ok (A1 A2 : Option Addr) (l1 k1 l2 k2 : Nat) (a b : List Int) (w : World) (ha : BigOk w w.heap.size false A1 l1 k1 a) (hb : BigOk w w.heap.size false A2 l2 k2 b) (h1 : l1 ≤ 1000) (h2 : l2 ≤ 1000) :
    Calls Tryz.prog 107 #[.agg #[.bool false, .slice A1 l1 k1], .agg #[.bool false, .slice A2 l2 k2]] w (MPost false (valL a * valL b) w) := by
  have HA := Lib.hid ha
  have HB := Lib.hid hb
  have HC := Lib.hid (fun W (h : Below w.heap.size w W) => rtwo9_ok false false A1 A2 l1 k1 l2 k2 a b W ((ha.below h).more h.size) ((hb.below h).more h.size))
  have HP := Lib.hid (fun W (h : Below w.heap.size w W) => rtimes_any A1 A2 a b l1 l2 k1 k2 ha.len hb.len ha.dig hb.dig (by omega) (by omega) W ((ha.below h).more h.size).rd ((hb.below h).more h.size).rd)
  have HN := Lib.hid (show valL a * valL b < bp 2000 ∧ 0 ≤ valL a * valL b from prod_bound ha.dig hb.dig (by rw [← ha.len]; exact h1) (by rw [← hb.len]; exact h2))
  obtain ⟨v, hv⟩ : ∃ v, v = valL a * valL b := ⟨_, rfl⟩
  rw [← hv] at HP HN ⊢
  clear ha hb hv
  go_enter Tryz.func107, Tryz.ntmps107
  go_wp2_with fail
  refine calls_gen (fun W => Blk W w.heap.size 27 #[.bool false, .slice A1 l1 k1] ∧ Blk W (w.heap.size + 1) 27 #[.bool false, .slice A2 l2 k2] ∧ Blk W (w.heap.size + 2) 27 #[.bool false, .slice none 0 0] ∧ Below w.heap.size w W) ⟨((Blk.new _ _ _).alloc _).alloc _, (Blk.new' _ _ _ (by simp)).alloc _, Blk.new' _ _ _ (by simp), (((Below.refl _ w).alloc (Nat.le_refl _) _).alloc (by simp) _).alloc (by simp; omega) _⟩ (fun W0 ⟨b0, b1, b2, hB0⟩ => ?_)
  refine (HC.out W0 hB0).mono ?_
  rintro e W1 ⟨rfl, hb1⟩
  have d0 := b0.below hb1 b0.lt
  have d1 := b1.below hb1 b1.lt
  have D2 := Lib.hid (b2.below hb1 b2.lt)
  have HB1 := Lib.hid (hB0.trans (hb1.mono hB0.size))
  clear b0 b1 b2 hB0 hb1
  go_wp2_with fail
  refine wp_region_held_drew (S := fun W' => W'.cell? ⟨w.heap.size, 0, none⟩ = some (.bool false) ∧ W'.cell? ⟨w.heap.size, 1, none⟩ = some (.slice A1 l1 k1) ∧ W'.cell? ⟨w.heap.size + 1, 0, none⟩ = some (.bool false) ∧ W'.cell? ⟨w.heap.size + 1, 1, none⟩ = some (.slice A2 l2 k2)) (by kernel_rfl) ⟨d0.cell 0, d0.cell 1, d1.cell 0, d1.cell 1⟩ (fun hS => ?_)
  refine wpAnyH_take (i := 0) (v := .pointer (some ⟨w.heap.size, 0, none⟩)) rfl (by kernel_rfl) (by kernel_rfl) (by kernel_rfl) (fun _ _ _ h => h) (Or.inl ⟨by rfl, fun W' hS' => by go_simp⟩) hS ?_
  simp only [Act.put, List.getElem_toArray, List.getElem_cons_zero, List.getElem_cons_succ, List.setIfInBounds_toArray, List.set_cons_zero, List.set_cons_succ]
  refine wpAnyH_take (i := 1) (v := .bool false) rfl (by kernel_rfl) (by kernel_rfl) (by kernel_rfl) (fun _ _ _ h => h) (Or.inl ⟨by rfl, fun W' hS' => by obtain ⟨q0, q1, q2, q3⟩ := hS'; go_simp⟩) hS ?_
  simp only [Act.put, List.getElem_toArray, List.getElem_cons_zero, List.getElem_cons_succ, List.setIfInBounds_toArray, List.set_cons_zero, List.set_cons_succ]
  refine wpAnyH_take (i := 2) (v := .pointer (some ⟨w.heap.size + 1, 0, none⟩)) rfl (by kernel_rfl) (by kernel_rfl) (by kernel_rfl) (fun _ _ _ h => h) (Or.inl ⟨by rfl, fun W' hS' => by go_simp⟩) hS ?_
  simp only [Act.put, List.getElem_toArray, List.getElem_cons_zero, List.getElem_cons_succ, List.setIfInBounds_toArray, List.set_cons_zero, List.set_cons_succ]
  refine wpAnyH_take (i := 3) (v := .bool false) rfl (by kernel_rfl) (by kernel_rfl) (by kernel_rfl) (fun _ _ _ h => h) (Or.inl ⟨by rfl, fun W' hS' => by obtain ⟨q0, q1, q2, q3⟩ := hS'; go_simp⟩) hS ?_
  simp only [Act.put, List.getElem_toArray, List.getElem_cons_zero, List.getElem_cons_succ, List.setIfInBounds_toArray, List.set_cons_zero, List.set_cons_succ]
  refine wpAnyH_take (i := 4) (v := .bool false) rfl (by kernel_rfl) (by kernel_rfl) (by kernel_rfl) (fun _ _ _ h => h) (Or.inl ⟨by rfl, fun W' hS' => by go_simp⟩) hS ?_
  simp only [Act.put, List.getElem_toArray, List.getElem_cons_zero, List.getElem_cons_succ, List.setIfInBounds_toArray, List.set_cons_zero, List.set_cons_succ]
  refine wpAnyH_take (i := 5) (v := .pointer (some ⟨w.heap.size, 1, none⟩)) rfl (by kernel_rfl) (by kernel_rfl) (by kernel_rfl) (fun _ _ _ h => h) (Or.inl ⟨by rfl, fun W' hS' => by go_simp⟩) hS ?_
  simp only [Act.put, List.getElem_toArray, List.getElem_cons_zero, List.getElem_cons_succ, List.setIfInBounds_toArray, List.set_cons_zero, List.set_cons_succ]
  refine wpAnyH_take (i := 6) (v := .slice A1 l1 k1) rfl (by kernel_rfl) (by kernel_rfl) (by kernel_rfl) (fun _ _ _ h => h) (Or.inl ⟨by rfl, fun W' hS' => by obtain ⟨q0, q1, q2, q3⟩ := hS'; go_simp⟩) hS ?_
  simp only [Act.put, List.getElem_toArray, List.getElem_cons_zero, List.getElem_cons_succ, List.setIfInBounds_toArray, List.set_cons_zero, List.set_cons_succ]
  refine wpAnyH_take (i := 7) (v := .pointer (some ⟨w.heap.size + 1, 1, none⟩)) rfl (by kernel_rfl) (by kernel_rfl) (by kernel_rfl) (fun _ _ _ h => h) (Or.inl ⟨by rfl, fun W' hS' => by go_simp⟩) hS ?_
  simp only [Act.put, List.getElem_toArray, List.getElem_cons_zero, List.getElem_cons_succ, List.setIfInBounds_toArray, List.set_cons_zero, List.set_cons_succ]
  refine wpAnyH_take (i := 8) (v := .slice A2 l2 k2) rfl (by kernel_rfl) (by kernel_rfl) (by kernel_rfl) (fun _ _ _ h => h) (Or.inl ⟨by rfl, fun W' hS' => by obtain ⟨q0, q1, q2, q3⟩ := hS'; go_simp⟩) hS ?_
  simp only [Act.put, List.getElem_toArray, List.getElem_cons_zero, List.getElem_cons_succ, List.setIfInBounds_toArray, List.set_cons_zero, List.set_cons_succ]
  have hbd : Below w.heap.size w W1.drew := HB1.out.drew
  refine wpAnyH_ready (rs := [9]) (by kernel_rfl) (by simp) ?_
  refine AllReadyH.cons rfl (fun Kq hKq => ?_) AllReadyH.nil
  simp only [List.getElem_toArray, List.getElem_cons_zero, List.getElem_cons_succ]
  go_simp
  refine (HP.out _ hbd).mono ?_
  rintro e W2 hp2
  obtain ⟨l, A, n, c, rfl, hl, k3, k4, k5, hd, ht, hlv, hrd, htl, hz, hb2⟩ := digPost_rof hp2
  have e0 := (Blk.drew d0).below hb2 (Blk.drew d0).lt
  have e1 := (Blk.drew d1).below hb2 (Blk.drew d1).lt
  have E2 := Lib.hid ((Blk.drew D2.out).below hb2 (Blk.drew D2.out).lt)
  have HB2 := Lib.hid (hbd.trans (hb2.mono hbd.size))
  have hn2 : n ≤ 2048 := by
    rw [hl]
    exact len_small2 hd ht (by rw [hlv]; exact HN.out.1)
  have HO := Lib.hid (rof_ok A l n c hl k3 (by omega) (by omega) (by rw [htl]; exact hn2) W2 hrd)
  rw [htl] at HO
  have HR := Lib.hid (show BigOk W2 W2.heap.size false A n c l from ⟨hl, k3, by omega, k5, hd, ht, hn2, fun h => rfl, hrd⟩)
  have HLV := Lib.hid hlv
  have hS2 : W2.cell? ⟨w.heap.size, 0, none⟩ = some (.bool false) ∧ W2.cell? ⟨w.heap.size, 1, none⟩ = some (.slice A1 l1 k1) ∧ W2.cell? ⟨w.heap.size + 1, 0, none⟩ = some (.bool false) ∧ W2.cell? ⟨w.heap.size + 1, 1, none⟩ = some (.slice A2 l2 k2) := ⟨e0.cell 0, e0.cell 1, e1.cell 0, e1.cell 1⟩
  refine hKq.out _ _ hS2 (fun _ => ?_)
  clear hKq Kq hp2 hl k5 hd ht hlv hrd htl hz hb2 hS
  refine wpAnyH_ready (rs := [10]) (by kernel_rfl) (by simp) ?_
  refine AllReadyH.cons rfl (fun Kq hKq => ?_) AllReadyH.nil
  simp only [List.getElem_toArray, List.getElem_cons_zero, List.getElem_cons_succ]
  go_simp
  refine HO.out.mono ?_
  rintro e W3 ⟨rfl, hb3⟩
  have f0 := e0.below hb3 e0.lt
  have f1 := e1.below hb3 e1.lt
  have F2 := Lib.hid (E2.out.below hb3 E2.out.lt)
  have HB3 := Lib.hid (HB2.out.trans (hb3.mono HB2.out.size))
  have HR3 := Lib.hid ((HR.out.below hb3).more hb3.size)
  have hS3 : W3.cell? ⟨w.heap.size, 0, none⟩ = some (.bool false) ∧ W3.cell? ⟨w.heap.size, 1, none⟩ = some (.slice A1 l1 k1) ∧ W3.cell? ⟨w.heap.size + 1, 0, none⟩ = some (.bool false) ∧ W3.cell? ⟨w.heap.size + 1, 1, none⟩ = some (.slice A2 l2 k2) := ⟨f0.cell 0, f0.cell 1, f1.cell 0, f1.cell 1⟩
  refine hKq.out _ _ hS3 (fun _ => ?_)
  clear hKq Kq hb3
  refine wpAnyH_take (i := 11) (v := .agg #[.bool false, .slice A n c]) rfl (by kernel_rfl) (by kernel_rfl) (by kernel_rfl) (fun _ _ _ h => h) (Or.inl ⟨by rfl, fun W' hS' => by go_simp⟩) hS3 ?_
  simp only [Act.put, List.getElem_toArray, List.getElem_cons_zero, List.getElem_cons_succ, List.setIfInBounds_toArray, List.set_cons_zero, List.set_cons_succ]
  refine wpAnyH_take (i := 12) (v := .int .i64 0) rfl (by kernel_rfl) (by kernel_rfl) (by kernel_rfl) (fun _ _ _ h => h) (Or.inl ⟨by rfl, fun W' hS' => by go_simp⟩) hS3 ?_
  simp only [Act.put, List.getElem_toArray, List.getElem_cons_zero, List.getElem_cons_succ, List.setIfInBounds_toArray, List.set_cons_zero, List.set_cons_succ]
  refine wpAnyH_ready (rs := [13]) (by kernel_rfl) (by simp) ?_
  refine AllReadyH.cons rfl (fun Kq hKq => ?_) AllReadyH.nil
  simp only [List.getElem_toArray, List.getElem_cons_zero, List.getElem_cons_succ]
  rw [if_pos (by rfl)]
  refine wp_store_big _ _ rfl F2.out false A n c rfl rfl rfl ?_
  intro w8 hD8 hO8 hz8
  have hcg : ∀ b i u, b < w.heap.size + 2 → W3.cell? ⟨b, i, none⟩ = some u → w8.cell? ⟨b, i, none⟩ = some u := fun b i u hb h => World.grownBy.cell hO8 h (fun e => by have := Option.some.inj e; simp at this; omega)
  have hS8 : w8.cell? ⟨w.heap.size, 0, none⟩ = some (.bool false) ∧ w8.cell? ⟨w.heap.size, 1, none⟩ = some (.slice A1 l1 k1) ∧ w8.cell? ⟨w.heap.size + 1, 0, none⟩ = some (.bool false) ∧ w8.cell? ⟨w.heap.size + 1, 1, none⟩ = some (.slice A2 l2 k2) := ⟨hcg _ _ _ (by omega) hS3.1, hcg _ _ _ (by omega) hS3.2.1, hcg _ _ _ (by omega) hS3.2.2.1, hcg _ _ _ (by omega) hS3.2.2.2⟩
  refine hKq.out _ _ hS8 (fun _ => ?_)
  clear hKq Kq hcg
  refine wpAnyH_take (i := 14) (v := .int .i64 0) rfl (by kernel_rfl) (by kernel_rfl) (by kernel_rfl) (fun _ _ _ h => h) (Or.inl ⟨by rfl, fun W' hS' => by go_simp⟩) hS8 ?_
  simp only [Act.put, List.getElem_toArray, List.getElem_cons_zero, List.getElem_cons_succ, List.setIfInBounds_toArray, List.set_cons_zero, List.set_cons_succ]
  refine wpAnyH_done (by kernel_rfl) ?_ _
  have HR8 := Lib.hid (BigOk.rdIn2 HR3.out ((mrd_only HR3.out.rd F2.out (big_noint _ _ _ _) hO8).more hO8.size))
  have HB8 := Lib.hid (HB3.out.trans (hO8.toBelow HB3.out.size (by omega)))
  clear hS2 hS3 hS8 e0 e1 f0 f1 d0 d1
  go_wp2_with fail
  refine bodyPost_ret (results_row_tmp rfl _ _ (w.heap.size + 2) 27 _ (0, 0) _ _ rfl rfl hD8 Tryz.underlying27 rfl bigSize) rfl ?_
  exact ⟨l, A, n, c, rfl, HR8.out, HLV.out, HB8.out⟩
set_option maxRecDepth 100000 in
set_option linter.unusedSimpArgs false in
set_option linter.unusedVariables false in
set_option maxHeartbeats 4000000 in
theorem rMul9_neg (A1 A2 : Option Addr) (l1 k1 l2 k2 : Nat) (a b : List Int) (w : World) (ha : BigOk w w.heap.size true A1 l1 k1 a) (hb : BigOk w w.heap.size false A2 l2 k2 b) (h1 : l1 ≤ 1000) (h2 : l2 ≤ 1000) (h3 : 0 < valL a * valL b) :
    Calls Tryz.prog 107 #[.agg #[.bool true, .slice A1 l1 k1], .agg #[.bool false, .slice A2 l2 k2]] w (MPost true (valL a * valL b) w) := by
  have HA := Lib.hid ha
  have HB := Lib.hid hb
  have HC := Lib.hid (fun W (h : Below w.heap.size w W) => rtwo9_ok true false A1 A2 l1 k1 l2 k2 a b W ((ha.below h).more h.size) ((hb.below h).more h.size))
  have HP := Lib.hid (fun W (h : Below w.heap.size w W) => rtimes_any A1 A2 a b l1 l2 k1 k2 ha.len hb.len ha.dig hb.dig (by omega) (by omega) W ((ha.below h).more h.size).rd ((hb.below h).more h.size).rd)
  have HN := Lib.hid (show valL a * valL b < bp 2000 ∧ 0 ≤ valL a * valL b from prod_bound ha.dig hb.dig (by rw [← ha.len]; exact h1) (by rw [← hb.len]; exact h2))
  obtain ⟨v, hv⟩ : ∃ v, v = valL a * valL b := ⟨_, rfl⟩
  rw [← hv] at HP HN h3 ⊢
  clear ha hb hv
  go_enter Tryz.func107, Tryz.ntmps107
  go_wp2_with fail
  refine calls_gen (fun W => Blk W w.heap.size 27 #[.bool true, .slice A1 l1 k1] ∧ Blk W (w.heap.size + 1) 27 #[.bool false, .slice A2 l2 k2] ∧ Blk W (w.heap.size + 2) 27 #[.bool false, .slice none 0 0] ∧ Below w.heap.size w W) ⟨((Blk.new _ _ _).alloc _).alloc _, (Blk.new' _ _ _ (by simp)).alloc _, Blk.new' _ _ _ (by simp), (((Below.refl _ w).alloc (Nat.le_refl _) _).alloc (by simp) _).alloc (by simp; omega) _⟩ (fun W0 ⟨b0, b1, b2, hB0⟩ => ?_)
  refine (HC.out W0 hB0).mono ?_
  rintro e W1 ⟨rfl, hb1⟩
  have d0 := b0.below hb1 b0.lt
  have d1 := b1.below hb1 b1.lt
  have D2 := Lib.hid (b2.below hb1 b2.lt)
  have HB1 := Lib.hid (hB0.trans (hb1.mono hB0.size))
  clear b0 b1 b2 hB0 hb1
  go_wp2_with fail
  refine wp_region_held_drew (S := fun W' => W'.cell? ⟨w.heap.size, 0, none⟩ = some (.bool true) ∧ W'.cell? ⟨w.heap.size, 1, none⟩ = some (.slice A1 l1 k1) ∧ W'.cell? ⟨w.heap.size + 1, 0, none⟩ = some (.bool false) ∧ W'.cell? ⟨w.heap.size + 1, 1, none⟩ = some (.slice A2 l2 k2)) (by kernel_rfl) ⟨d0.cell 0, d0.cell 1, d1.cell 0, d1.cell 1⟩ (fun hS => ?_)
  refine wpAnyH_take (i := 0) (v := .pointer (some ⟨w.heap.size, 0, none⟩)) rfl (by kernel_rfl) (by kernel_rfl) (by kernel_rfl) (fun _ _ _ h => h) (Or.inl ⟨by rfl, fun W' hS' => by go_simp⟩) hS ?_
  simp only [Act.put, List.getElem_toArray, List.getElem_cons_zero, List.getElem_cons_succ, List.setIfInBounds_toArray, List.set_cons_zero, List.set_cons_succ]
  refine wpAnyH_take (i := 1) (v := .bool true) rfl (by kernel_rfl) (by kernel_rfl) (by kernel_rfl) (fun _ _ _ h => h) (Or.inl ⟨by rfl, fun W' hS' => by obtain ⟨q0, q1, q2, q3⟩ := hS'; go_simp⟩) hS ?_
  simp only [Act.put, List.getElem_toArray, List.getElem_cons_zero, List.getElem_cons_succ, List.setIfInBounds_toArray, List.set_cons_zero, List.set_cons_succ]
  refine wpAnyH_take (i := 2) (v := .pointer (some ⟨w.heap.size + 1, 0, none⟩)) rfl (by kernel_rfl) (by kernel_rfl) (by kernel_rfl) (fun _ _ _ h => h) (Or.inl ⟨by rfl, fun W' hS' => by go_simp⟩) hS ?_
  simp only [Act.put, List.getElem_toArray, List.getElem_cons_zero, List.getElem_cons_succ, List.setIfInBounds_toArray, List.set_cons_zero, List.set_cons_succ]
  refine wpAnyH_take (i := 3) (v := .bool false) rfl (by kernel_rfl) (by kernel_rfl) (by kernel_rfl) (fun _ _ _ h => h) (Or.inl ⟨by rfl, fun W' hS' => by obtain ⟨q0, q1, q2, q3⟩ := hS'; go_simp⟩) hS ?_
  simp only [Act.put, List.getElem_toArray, List.getElem_cons_zero, List.getElem_cons_succ, List.setIfInBounds_toArray, List.set_cons_zero, List.set_cons_succ]
  refine wpAnyH_take (i := 4) (v := .bool true) rfl (by kernel_rfl) (by kernel_rfl) (by kernel_rfl) (fun _ _ _ h => h) (Or.inl ⟨by rfl, fun W' hS' => by go_simp⟩) hS ?_
  simp only [Act.put, List.getElem_toArray, List.getElem_cons_zero, List.getElem_cons_succ, List.setIfInBounds_toArray, List.set_cons_zero, List.set_cons_succ]
  refine wpAnyH_take (i := 5) (v := .pointer (some ⟨w.heap.size, 1, none⟩)) rfl (by kernel_rfl) (by kernel_rfl) (by kernel_rfl) (fun _ _ _ h => h) (Or.inl ⟨by rfl, fun W' hS' => by go_simp⟩) hS ?_
  simp only [Act.put, List.getElem_toArray, List.getElem_cons_zero, List.getElem_cons_succ, List.setIfInBounds_toArray, List.set_cons_zero, List.set_cons_succ]
  refine wpAnyH_take (i := 6) (v := .slice A1 l1 k1) rfl (by kernel_rfl) (by kernel_rfl) (by kernel_rfl) (fun _ _ _ h => h) (Or.inl ⟨by rfl, fun W' hS' => by obtain ⟨q0, q1, q2, q3⟩ := hS'; go_simp⟩) hS ?_
  simp only [Act.put, List.getElem_toArray, List.getElem_cons_zero, List.getElem_cons_succ, List.setIfInBounds_toArray, List.set_cons_zero, List.set_cons_succ]
  refine wpAnyH_take (i := 7) (v := .pointer (some ⟨w.heap.size + 1, 1, none⟩)) rfl (by kernel_rfl) (by kernel_rfl) (by kernel_rfl) (fun _ _ _ h => h) (Or.inl ⟨by rfl, fun W' hS' => by go_simp⟩) hS ?_
  simp only [Act.put, List.getElem_toArray, List.getElem_cons_zero, List.getElem_cons_succ, List.setIfInBounds_toArray, List.set_cons_zero, List.set_cons_succ]
  refine wpAnyH_take (i := 8) (v := .slice A2 l2 k2) rfl (by kernel_rfl) (by kernel_rfl) (by kernel_rfl) (fun _ _ _ h => h) (Or.inl ⟨by rfl, fun W' hS' => by obtain ⟨q0, q1, q2, q3⟩ := hS'; go_simp⟩) hS ?_
  simp only [Act.put, List.getElem_toArray, List.getElem_cons_zero, List.getElem_cons_succ, List.setIfInBounds_toArray, List.set_cons_zero, List.set_cons_succ]
  have hbd : Below w.heap.size w W1.drew := HB1.out.drew
  refine wpAnyH_ready (rs := [9]) (by kernel_rfl) (by simp) ?_
  refine AllReadyH.cons rfl (fun Kq hKq => ?_) AllReadyH.nil
  simp only [List.getElem_toArray, List.getElem_cons_zero, List.getElem_cons_succ]
  go_simp
  refine (HP.out _ hbd).mono ?_
  rintro e W2 hp2
  obtain ⟨l, A, n, c, rfl, hl, k3, k4, k5, hd, ht, hlv, hrd, htl, hz, hb2⟩ := digPost_rof hp2
  have e0 := (Blk.drew d0).below hb2 (Blk.drew d0).lt
  have e1 := (Blk.drew d1).below hb2 (Blk.drew d1).lt
  have E2 := Lib.hid ((Blk.drew D2.out).below hb2 (Blk.drew D2.out).lt)
  have HB2 := Lib.hid (hbd.trans (hb2.mono hbd.size))
  have hn2 : n ≤ 2048 := by
    rw [hl]
    exact len_small2 hd ht (by rw [hlv]; exact HN.out.1)
  have hn0 : 0 < n := by
    rcases Nat.eq_zero_or_pos n with h | h
    · have := hz.1 h; omega
    · exact h
  have HO := Lib.hid (rof_neg A l n c hl k3 (by omega) (by omega) (by rw [htl]; exact hn2) (by rw [htl]; exact hn0) W2 hrd)
  rw [htl] at HO
  have HR := Lib.hid (show BigOk W2 W2.heap.size true A n c l from ⟨hl, k3, by omega, k5, hd, ht, hn2, fun h => (by omega), hrd⟩)
  have HLV := Lib.hid hlv
  have hS2 : W2.cell? ⟨w.heap.size, 0, none⟩ = some (.bool true) ∧ W2.cell? ⟨w.heap.size, 1, none⟩ = some (.slice A1 l1 k1) ∧ W2.cell? ⟨w.heap.size + 1, 0, none⟩ = some (.bool false) ∧ W2.cell? ⟨w.heap.size + 1, 1, none⟩ = some (.slice A2 l2 k2) := ⟨e0.cell 0, e0.cell 1, e1.cell 0, e1.cell 1⟩
  refine hKq.out _ _ hS2 (fun _ => ?_)
  clear hKq Kq hp2 hl k5 hd ht hlv hrd htl hz hb2 hS
  refine wpAnyH_ready (rs := [10]) (by kernel_rfl) (by simp) ?_
  refine AllReadyH.cons rfl (fun Kq hKq => ?_) AllReadyH.nil
  simp only [List.getElem_toArray, List.getElem_cons_zero, List.getElem_cons_succ]
  go_simp
  refine HO.out.mono ?_
  rintro e W3 ⟨rfl, hb3⟩
  have f0 := e0.below hb3 e0.lt
  have f1 := e1.below hb3 e1.lt
  have F2 := Lib.hid (E2.out.below hb3 E2.out.lt)
  have HB3 := Lib.hid (HB2.out.trans (hb3.mono HB2.out.size))
  have HR3 := Lib.hid ((HR.out.below hb3).more hb3.size)
  have hS3 : W3.cell? ⟨w.heap.size, 0, none⟩ = some (.bool true) ∧ W3.cell? ⟨w.heap.size, 1, none⟩ = some (.slice A1 l1 k1) ∧ W3.cell? ⟨w.heap.size + 1, 0, none⟩ = some (.bool false) ∧ W3.cell? ⟨w.heap.size + 1, 1, none⟩ = some (.slice A2 l2 k2) := ⟨f0.cell 0, f0.cell 1, f1.cell 0, f1.cell 1⟩
  refine hKq.out _ _ hS3 (fun _ => ?_)
  clear hKq Kq hb3
  refine wpAnyH_take (i := 11) (v := .agg #[.bool true, .slice A n c]) rfl (by kernel_rfl) (by kernel_rfl) (by kernel_rfl) (fun _ _ _ h => h) (Or.inl ⟨by rfl, fun W' hS' => by go_simp⟩) hS3 ?_
  simp only [Act.put, List.getElem_toArray, List.getElem_cons_zero, List.getElem_cons_succ, List.setIfInBounds_toArray, List.set_cons_zero, List.set_cons_succ]
  refine wpAnyH_take (i := 12) (v := .int .i64 0) rfl (by kernel_rfl) (by kernel_rfl) (by kernel_rfl) (fun _ _ _ h => h) (Or.inl ⟨by rfl, fun W' hS' => by go_simp⟩) hS3 ?_
  simp only [Act.put, List.getElem_toArray, List.getElem_cons_zero, List.getElem_cons_succ, List.setIfInBounds_toArray, List.set_cons_zero, List.set_cons_succ]
  refine wpAnyH_ready (rs := [13]) (by kernel_rfl) (by simp) ?_
  refine AllReadyH.cons rfl (fun Kq hKq => ?_) AllReadyH.nil
  simp only [List.getElem_toArray, List.getElem_cons_zero, List.getElem_cons_succ]
  rw [if_pos (by rfl)]
  refine wp_store_big _ _ rfl F2.out true A n c rfl rfl rfl ?_
  intro w8 hD8 hO8 hz8
  have hcg : ∀ b i u, b < w.heap.size + 2 → W3.cell? ⟨b, i, none⟩ = some u → w8.cell? ⟨b, i, none⟩ = some u := fun b i u hb h => World.grownBy.cell hO8 h (fun e => by have := Option.some.inj e; simp at this; omega)
  have hS8 : w8.cell? ⟨w.heap.size, 0, none⟩ = some (.bool true) ∧ w8.cell? ⟨w.heap.size, 1, none⟩ = some (.slice A1 l1 k1) ∧ w8.cell? ⟨w.heap.size + 1, 0, none⟩ = some (.bool false) ∧ w8.cell? ⟨w.heap.size + 1, 1, none⟩ = some (.slice A2 l2 k2) := ⟨hcg _ _ _ (by omega) hS3.1, hcg _ _ _ (by omega) hS3.2.1, hcg _ _ _ (by omega) hS3.2.2.1, hcg _ _ _ (by omega) hS3.2.2.2⟩
  refine hKq.out _ _ hS8 (fun _ => ?_)
  clear hKq Kq hcg
  refine wpAnyH_take (i := 14) (v := .int .i64 0) rfl (by kernel_rfl) (by kernel_rfl) (by kernel_rfl) (fun _ _ _ h => h) (Or.inl ⟨by rfl, fun W' hS' => by go_simp⟩) hS8 ?_
  simp only [Act.put, List.getElem_toArray, List.getElem_cons_zero, List.getElem_cons_succ, List.setIfInBounds_toArray, List.set_cons_zero, List.set_cons_succ]
  refine wpAnyH_done (by kernel_rfl) ?_ _
  have HR8 := Lib.hid (BigOk.rdIn2 HR3.out ((mrd_only HR3.out.rd F2.out (big_noint _ _ _ _) hO8).more hO8.size))
  have HB8 := Lib.hid (HB3.out.trans (hO8.toBelow HB3.out.size (by omega)))
  clear hS2 hS3 hS8 e0 e1 f0 f1 d0 d1
  go_wp2_with fail
  refine bodyPost_ret (results_row_tmp rfl _ _ (w.heap.size + 2) 27 _ (0, 0) _ _ rfl rfl hD8 Tryz.underlying27 rfl bigSize) rfl ?_
  exact ⟨l, A, n, c, rfl, HR8.out, HLV.out, HB8.out⟩
theorem BigOk.abs {w : World} {B : Nat} {neg : Bool} {A : Option Addr} {n c : Nat} {l : List Int} (h : BigOk w B neg A n c l) : BigOk w B false A n c l := { h with sign := fun _ => rfl }
set_option maxRecDepth 100000 in
set_option linter.unusedSimpArgs false in
set_option linter.unusedVariables false in
set_option maxHeartbeats 4000000 in
theorem rGcd9_ok (n1 n2 : Bool) (A1 A2 : Option Addr) (l1 k1 l2 k2 : Nat) (a b : List Int) (w : World) (ha : BigOk w w.heap.size n1 A1 l1 k1 a) (hb : BigOk w w.heap.size n2 A2 l2 k2 b) (h1 : l1 ≤ 1000) (h2 : l2 ≤ 1000) :
    Calls Tryz.prog 29 #[.agg #[.bool n1, .slice A1 l1 k1], .agg #[.bool n2, .slice A2 l2 k2]] w (MPost false (Int.gcd (valL a) (valL b)) w) := by
  have HC := Lib.hid (fun W (h : Below w.heap.size w W) => rtwo9_ok n1 n2 A1 A2 l1 k1 l2 k2 a b W ((ha.below h).more h.size) ((hb.below h).more h.size))
  have HA := Lib.hid ha
  have HB := Lib.hid hb
  obtain ⟨G, hG⟩ : ∃ G : Int, G = Int.gcd (valL a) (valL b) := ⟨_, rfl⟩
  rw [← hG]
  have HG := Lib.hid hG
  clear ha hb hG
  go_enter Tryz.func29, Tryz.ntmps29
  go_wp2_with fail
  refine calls_gen (fun W => Blk W w.heap.size 27 #[.bool n1, .slice A1 l1 k1] ∧ Blk W (w.heap.size + 1) 27 #[.bool n2, .slice A2 l2 k2] ∧ Blk W (w.heap.size + 2) 27 #[.bool false, .slice none 0 0] ∧ Below w.heap.size w W) ⟨((Blk.new _ _ _).alloc _).alloc _, (Blk.new' _ _ _ (by simp)).alloc _, Blk.new' _ _ _ (by simp), (((Below.refl _ w).alloc (Nat.le_refl _) _).alloc (by simp) _).alloc (by simp; omega) _⟩ (fun W0 ⟨b0, b1, b2, hB0⟩ => ?_)
  refine (HC.out W0 hB0).mono ?_
  rintro e w1 ⟨rfl, hb1⟩
  have d0 := b0.below hb1 b0.lt
  have d1 := b1.below hb1 b1.lt
  have D2 := Lib.hid (b2.below hb1 b2.lt)
  have HB1 := Lib.hid (hB0.trans (hb1.mono hB0.size))
  have x1 : w1.cell? ⟨w.heap.size, 1, none⟩ = some (.slice A1 l1 k1) := d0.cell 1
  have y1 : w1.cell? ⟨w.heap.size + 1, 1, none⟩ = some (.slice A2 l2 k2) := d1.cell 1
  clear b0 b1 b2 hB0 hb1 d0 d1 HC
  go_wp2_with fail
  go_loopg [7, 8] ((valL b).toNat + 1) (fun g mv nv wr => ∃ (x y : List Int) (Ax Ay : Option Addr) (nx ny cx cy : Nat), mv = .slice Ax nx cx ∧ nv = .slice Ay ny cy ∧ BigOk wr wr.heap.size false Ax nx cx x ∧ BigOk wr wr.heap.size false Ay ny cy y ∧ nx ≤ 1000 ∧ ny ≤ 1000 ∧ (Int.gcd (valL x) (valL y) : Int) = G ∧ g = (valL y).toNat + 1 ∧
    Blk wr (w.heap.size + 2) 27 #[.bool false, .slice none 0 0] ∧ Below w.heap.size w wr)
  case atStart => exact ⟨a, b, A1, A2, l1, l2, k1, k2, rfl, rfl, BigOk.abs ((HA.out.below HB1.out).more HB1.out.size), BigOk.abs ((HB.out.below HB1.out).more HB1.out.size), h1, h2, HG.out.symm, rfl, D2.out, HB1.out⟩
  case round =>
    clear x1 y1
    obtain ⟨x, y, Ax, Ay, nx, ny, cx, cy, rfl, rfl, hx, hy, hnx, hny, hg, rfl, b2, hB⟩ := hrel
    rcases Nat.eq_zero_or_pos ny with rfl | h0
    · have hv : valL y = 0 := hy.zero.2 rfl
      rw [hv, gcd_end _ hx.val] at hg
      have HV := Lib.hid hg
      have htl : tlen x nx = nx := by rw [hx.len]; exact tlen_full x hx.trim
      have HN := Lib.hid (rof_ok Ax x nx cx hx.len hx.cap hx.most (by have := hx.few; omega) (by rw [htl]; exact hx.few) wr hx.rd)
      rw [htl] at HN
      have HX := Lib.hid hx
      have HB2 := Lib.hid b2
      have HBB := Lib.hid hB
      have hsz := hB.size
      have g0 : decide ((0 : Int) < ((0 : Nat) : Int)) = false := by decide
      clear hx hy hg hv htl b2 hB HA HB HG D2 HB1
      go_wp2_with fail
      refine HN.out.mono ?_
      rintro e w2 ⟨rfl, hb2⟩
      have c2 := HB2.out.below hb2 HB2.out.lt
      have HX2 := Lib.hid ((HX.out.below hb2).more hb2.size)
      have HBW := Lib.hid (HBB.out.trans (hb2.mono hsz))
      clear hb2 HN
      go_wp2_with (refine store_big rfl _ _ rfl c2 false Ax nx cx rfl rfl rfl ?_; intro w8 hD8 hO8 hz8)
      have hX8 := BigOk.rdIn2 HX2.out ((mrd_only HX2.out.rd c2 (big_noint _ _ _ _) hO8).more hO8.size)
      refine bodyPost_ret (results_row_tmp rfl _ _ (w.heap.size + 2) 27 _ (0, 0) _ _ rfl rfl hD8 Tryz.underlying27 rfl bigSize) rfl ?_
      exact ⟨x, Ax, nx, cx, rfl, hX8, HV.out, HBW.out.trans (hO8.toBelow HBW.out.size (by omega))⟩
    · have g0 : decide ((0 : Int) < (ny : Int)) = true := decide_eq_true (by omega)
      have g0n : decide (0 < ny) = true := decide_eq_true h0
      have HD := Lib.hid (rdivide_ok Ax Ay x y nx ny cx cy wr hx hy h0 hnx hny)
      have hyp := hy.pos h0
      have HG2 := Lib.hid (show (Int.gcd (valL y) (valL x % valL y) : Int) = G by rw [gcd_step _ _ hx.val hyp]; exact hg)
      have HLT := Lib.hid (show (valL x % valL y).toNat + 1 < (valL y).toNat + 1 ∧ valL x % valL y ≤ valL y by
        have := Int.emod_lt_of_pos (valL x) hyp
        have := Int.emod_nonneg (valL x) (show valL y ≠ 0 by omega)
        omega)
      have HY := Lib.hid hy
      have HB2 := Lib.hid b2
      have HBB := Lib.hid hB
      clear hx hy hg b2 hB HA HB HG D2 HB1 hyp
      go_wp2_with fail
      refine HD.out.mono ?_
      rintro e w2 ⟨r, Qv, Ar, nr, cr, rfl, hbr, hr, hb2⟩
      have hnr : nr ≤ 1000 := by
        have h9 := len_le_of_val hbr.dig hbr.trim HY.out.dig (by rw [hr]; exact HLT.out.2)
        rw [← hbr.len, ← HY.out.len] at h9
        omega
      have HR := Lib.hid hr
      have HBR := Lib.hid hbr
      have HB22 := Lib.hid hb2
      clear hr hbr hb2 HD
      go_wp2_with fail
      go_roundg ((valL r).toNat + 1)
      case measure => rw [HR.out]; exact HLT.out.1
      case rel => exact ⟨y, r, Ay, Ar, ny, nr, cy, cr, rfl, rfl, (HY.out.below HB22.out).more HB22.out.size, HBR.out, hny, hnr, by rw [HR.out]; exact HG2.out, rfl, HB2.out.below HB22.out HB2.out.lt, HBB.out.trans (HB22.out.mono HBB.out.size)⟩
end Go.Proofs.YtkkcbkfpaoldmaaGreatDoor

/- Walks: podiumref10.FewBig, Few, zero, Check. -/
namespace Go.Proofs.YtkkcbkfpaoldmaaGreatDoor
open Go Go.RowKit

/-- Few digits, or too many. -/
def FewN (n : Nat) : Prop := n ≤ 4 ∨ (2048 < n ∧ n ≤ 2052)
instance (n : Nat) : Decidable (FewN n) := inferInstanceAs (Decidable (_ ∨ _))
set_option maxRecDepth 100000 in
set_option linter.unusedSimpArgs false in
set_option linter.unusedVariables false in
set_option maxHeartbeats 4000000 in
theorem fewBig_any (b : Bool) (A : Option Addr) (n c : Nat) (w : World) : Calls Tryz.prog 26 #[.agg #[.bool b, .slice A n c], .int .i64 4] w (Ret (.bool (decide (FewN n))) w) := by
  by_cases h1 : n ≤ 4
  · rw [show decide (FewN n) = true from decide_eq_true (.inl h1)]
    have g1 : decide ((n : Int) ≤ 4) = true := decide_eq_true (by omega)
    have g1n : decide (n ≤ 4) = true := decide_eq_true h1
    clear h1
    go_enter Tryz.func26, Tryz.ntmps26
    go_wp2_with fail
    go_ret
    exact ⟨rfl, (Below.refl _ w).alloc (Nat.le_refl _) _⟩
  · have g1 : decide ((n : Int) ≤ 4) = false := decide_eq_false (by omega)
    have g1n : decide (n ≤ 4) = false := decide_eq_false h1
    by_cases h2 : 2048 < n
    · have g2 : decide ((2048 : Int) < (n : Int)) = true := decide_eq_true (by omega)
      have g2n : decide (2048 < n) = true := decide_eq_true h2
      obtain ⟨r, hr⟩ : ∃ r, r = decide (FewN n) := ⟨_, rfl⟩
      have g3 : decide ((n : Int) ≤ 2052) = r := by
        rw [hr]
        exact decide_eq_decide.2 ⟨fun h => .inr ⟨h2, by omega⟩, fun h => by rcases h with h | h <;> omega⟩
      have g3n : decide (n ≤ 2052) = r := by rw [← g3]; exact decide_eq_decide.2 (by omega)
      rw [← hr]
      clear h1 h2 hr
      go_enter Tryz.func26, Tryz.ntmps26
      go_wp2_with fail
      go_ret
      exact ⟨by simp, (Below.refl _ w).alloc (Nat.le_refl _) _⟩
    · rw [show decide (FewN n) = false from decide_eq_false (fun h => by rcases h with h | h <;> omega)]
      have g2 : decide ((2048 : Int) < (n : Int)) = false := decide_eq_false (by omega)
      have g2n : decide (2048 < n) = false := decide_eq_false h2
      clear h1 h2
      go_enter Tryz.func26, Tryz.ntmps26
      go_wp2_with fail
      go_ret
      exact ⟨rfl, (Below.refl _ w).alloc (Nat.le_refl _) _⟩
/-- The cells of a ratio. -/
abbrev ratD (b1 : Bool) (A1 : Option Addr) (n1 c1 : Nat) (b2 : Bool) (A2 : Option Addr) (n2 c2 : Nat) : Array Value := #[.bool b1, .slice A1 n1 c1, .bool b2, .slice A2 n2 c2]
set_option maxRecDepth 100000 in
set_option linter.unusedSimpArgs false in
set_option linter.unusedVariables false in
set_option maxHeartbeats 4000000 in
theorem few10_any (b1 b2 : Bool) (A1 A2 : Option Addr) (n1 c1 n2 c2 : Nat) (w : World) : Calls Tryz.prog 6 #[.agg (ratD b1 A1 n1 c1 b2 A2 n2 c2), .int .i64 4] w (Ret (.bool (decide (FewN n1) && decide (FewN n2))) w) := by
  have H1 := Lib.hid (fun W => fewBig_any b1 A1 n1 c1 W)
  have H2 := Lib.hid (fun W => fewBig_any b2 A2 n2 c2 W)
  obtain ⟨r1, hr1⟩ : ∃ r, r = decide (FewN n1) := ⟨_, rfl⟩
  obtain ⟨r2, hr2⟩ : ∃ r, r = decide (FewN n2) := ⟨_, rfl⟩
  rw [← hr1] at H1 ⊢
  rw [← hr2] at H2 ⊢
  clear hr1 hr2
  go_enter Tryz.func6, Tryz.ntmps6
  go_wp2_with fail
  refine calls_gen (fun W => Blk W w.heap.size 29 (ratD b1 A1 n1 c1 b2 A2 n2 c2) ∧ Below w.heap.size w W) ⟨Blk.new w _ _, (Below.refl _ w).alloc (Nat.le_refl _) _⟩ (fun W0 ⟨b0, hB0⟩ => ?_)
  refine (H1.out W0).mono ?_
  rintro e W1 ⟨rfl, hb1⟩
  have d0 := b0.below hb1 b0.lt
  have HB1 := Lib.hid (hB0.trans (hb1.mono hB0.size))
  have k2 : W1.cell? ⟨w.heap.size, 2, none⟩ = some (.bool b2) := d0.cell 2
  have k3 : W1.cell? ⟨w.heap.size, 3, none⟩ = some (.slice A2 n2 c2) := d0.cell 3
  clear b0 hB0 hb1 d0
  cases r1 with
  | true =>
    go_wp2_with fail
    refine (H2.out W1).mono ?_
    rintro e W2 ⟨rfl, hb2⟩
    have HB2 := Lib.hid (HB1.out.trans (hb2.mono HB1.out.size))
    clear hb2
    go_wp2_with fail
    go_ret
    exact ⟨by simp, HB2.out⟩
  | false =>
    go_wp2_with fail
    go_ret
    exact ⟨rfl, HB1.out⟩
set_option maxRecDepth 100000 in
set_option linter.unusedSimpArgs false in
set_option linter.unusedVariables false in
set_option maxHeartbeats 4000000 in
theorem zero10_any (b : Bool) (A : Option Addr) (n c : Nat) (w : World) : Calls Tryz.prog 28 #[.agg #[.bool b, .slice A n c]] w (Ret (.bool (n == 0)) w) := by
  obtain ⟨r, hr⟩ : ∃ r, r = (n == 0) := ⟨_, rfl⟩
  have g1 : ((n : Int) == 0) = r := by
    rw [hr]
    by_cases h : n = 0
    · subst h; rfl
    · rw [beq_eq_false_iff_ne.2 h]; exact beq_eq_false_iff_ne.2 (by omega)
  have g1n : (n == 0) = r := hr.symm
  rw [← hr]
  clear hr
  go_enter Tryz.func28, Tryz.ntmps28
  go_wp2_with fail
  go_ret
  exact ⟨by simp, (Below.refl _ w).alloc (Nat.le_refl _) _⟩
/-- A ratio that is valid. -/
def Ok10 (b1 : Bool) (p : List Int) (b2 : Bool) (q : List Int) : Prop := Ck9 b1 p ∧ Ck9 b2 q ∧ 0 < q.length ∧ b2 = false ∧ Int.gcd (valL p) (valL q) = 1
theorem sgn_zero_iff (x : Int) : sgn x = 0 ↔ x = 0 := by
  unfold sgn
  split
  · omega
  · split <;> omega
theorem BigOk.of_ck {w : World} {B : Nat} {neg : Bool} {A : Option Addr} {n c : Nat} {l : List Int} (hn : n = l.length) (hc : n ≤ c) (hc2 : c ≤ 9223372036854775807) (hz : A = none → c = 0) (hR : MRd w B A l) (h : Ck9 neg l) : BigOk w B neg A n c l :=
  ⟨hn, hc, hc2, hz, h.2.2.2, h.2.2.1, by rw [hn]; exact h.1, fun e => h.2.1 (by rw [← hn]; exact e), hR⟩
set_option maxRecDepth 100000 in
set_option linter.unusedSimpArgs false in
set_option linter.unusedVariables false in
set_option maxHeartbeats 4000000 in
theorem rCheck10_any (b1 b2 : Bool) (A1 A2 : Option Addr) (n1 c1 n2 c2 : Nat) (p q : List Int) (w : World) (l1 : n1 = p.length) (l2 : n2 = q.length) (hc1 : n1 ≤ c1) (hc2 : n2 ≤ c2) (hm1 : c1 ≤ 9223372036854775807) (hm2 : c2 ≤ 9223372036854775807) (hz1 : A1 = none → c1 = 0) (hz2 : A2 = none → c2 = 0)
    (hR1 : MRd w w.heap.size A1 p) (hR2 : MRd w w.heap.size A2 q) (hf1 : n1 ≤ 100 ∨ 2048 < n1) (hf2 : n2 ≤ 100 ∨ 2048 < n2) (hb1 : n1 ≤ 4611686018427387903) (hb2 : n2 ≤ 4611686018427387903) :
    Calls Tryz.prog 7 #[.agg (ratD b1 A1 n1 c1 b2 A2 n2 c2)] w (CkPost (Ok10 b1 p b2 q) 100 w) := by
  have HC1 := Lib.hid (fun W (h : Below w.heap.size w W) => rCheck9_any b1 A1 n1 c1 p l1 hb1 W ((hR1.below h).more h.size))
  have HC2 := Lib.hid (fun W (h : Below w.heap.size w W) => rCheck9_any b2 A2 n2 c2 q l2 hb2 W ((hR2.below h).more h.size))
  unfold bigV at HC1 HC2
  have HZ := Lib.hid (fun W => zero10_any b2 A2 n2 c2 W)
  have HA := Lib.hid (fun (h : Ck9 b1 p) => BigOk.of_ck l1 hc1 hm1 hz1 hR1 h)
  have HB := Lib.hid (fun (h : Ck9 b2 q) => BigOk.of_ck l2 hc2 hm2 hz2 hR2 h)
  have HF1 := Lib.hid (fun (h : Ck9 b1 p) => show n1 ≤ 1000 from by have := h.1; omega)
  have HF2 := Lib.hid (fun (h : Ck9 b2 q) => show n2 ≤ 1000 from by have := h.1; omega)
  have HL2 := Lib.hid l2
  clear l1 l2 hc1 hc2 hm1 hm2 hz1 hz2 hR1 hR2 hf1 hf2 hb1 hb2
  go_enter Tryz.func7, Tryz.ntmps7
  go_wp2_with fail
  refine calls_gen (fun W => Blk W w.heap.size 29 (ratD b1 A1 n1 c1 b2 A2 n2 c2) ∧ Below w.heap.size w W) ⟨Blk.new w _ _, (Below.refl _ w).alloc (Nat.le_refl _) _⟩ (fun W0 ⟨b0, hB0⟩ => ?_)
  refine (HC1.out W0 hB0).mono ?_
  rintro e W1 ⟨r1, rfl, hr1, hb1⟩
  have d0 := b0.below hb1 b0.lt
  have HB1 := Lib.hid (hB0.trans (hb1.mono hB0.size))
  have k2 : W1.cell? ⟨w.heap.size, 2, none⟩ = some (.bool b2) := d0.cell 2
  have k3 : W1.cell? ⟨w.heap.size, 3, none⟩ = some (.slice A2 n2 c2) := d0.cell 3
  clear b0 hB0 hb1
  rcases hr1 with ⟨rfl, v1⟩ | ⟨rfl, v1⟩
  rotate_left
  · have HN := Lib.hid (show ¬ Ok10 b1 p b2 q from fun h => v1 h.1)
    clear v1 d0
    go_wp2_with fail
    go_ret
    exact ⟨100, rfl, .inr ⟨rfl, HN.out⟩, HB1.out⟩
  have V1 := Lib.hid v1
  have D0 := Lib.hid d0
  clear v1 d0
  go_wp2_with fail
  refine (HC2.out W1 HB1.out).mono ?_
  rintro e W2 ⟨r2, rfl, hr2, hb2⟩
  have HB2 := Lib.hid (HB1.out.trans (hb2.mono HB1.out.size))
  have D2 := Lib.hid (D0.out.below hb2 D0.out.lt)
  clear hb2 k2 k3
  have k2 : W2.cell? ⟨w.heap.size, 2, none⟩ = some (.bool b2) := D2.out.cell 2
  have k3 : W2.cell? ⟨w.heap.size, 3, none⟩ = some (.slice A2 n2 c2) := D2.out.cell 3
  rcases hr2 with ⟨rfl, v2⟩ | ⟨rfl, v2⟩
  rotate_left
  · have HN := Lib.hid (show ¬ Ok10 b1 p b2 q from fun h => v2 h.2.1)
    clear v2
    go_wp2_with fail
    go_ret
    exact ⟨100, rfl, .inr ⟨rfl, HN.out⟩, HB2.out⟩
  have V2 := Lib.hid v2
  clear v2
  go_wp2_with fail
  refine (HZ.out W2).mono ?_
  rintro e W3 ⟨rfl, hb3⟩
  have HB3 := Lib.hid (HB2.out.trans (hb3.mono HB2.out.size))
  have D3 := Lib.hid (D2.out.below hb3 D2.out.lt)
  clear hb3 k2 k3
  have k0 : W3.cell? ⟨w.heap.size, 0, none⟩ = some (.bool b1) := D3.out.cell 0
  have k1 : W3.cell? ⟨w.heap.size, 1, none⟩ = some (.slice A1 n1 c1) := D3.out.cell 1
  have k2 : W3.cell? ⟨w.heap.size, 2, none⟩ = some (.bool b2) := D3.out.cell 2
  have k3 : W3.cell? ⟨w.heap.size, 3, none⟩ = some (.slice A2 n2 c2) := D3.out.cell 3
  by_cases h0 : n2 = 0
  · have g0 : (n2 == 0) = true := beq_iff_eq.2 h0
    have HN := Lib.hid (show ¬ Ok10 b1 p b2 q from fun h => by have := h.2.2.1; have := HL2.out; omega)
    clear h0
    go_wp2_with fail
    go_ret
    exact ⟨100, rfl, .inr ⟨rfl, HN.out⟩, HB3.out⟩
  have g0 : (n2 == 0) = false := beq_eq_false_iff_ne.2 h0
  cases b2 with
  | true =>
    have HN := Lib.hid (show ¬ Ok10 b1 p true q from fun h => by have := h.2.2.2.1; cases this)
    clear h0
    go_wp2_with fail
    go_ret
    exact ⟨100, rfl, .inr ⟨rfl, HN.out⟩, HB3.out⟩
  | false =>
  have HLQ := Lib.hid (show 0 < q.length by have := HL2.out; omega)
  have HG := Lib.hid (rGcd9_ok b1 false A1 A2 n1 c1 n2 c2 p q W3 (((HA.out V1.out).below HB3.out).more HB3.out.size) (((HB.out V2.out).below HB3.out).more HB3.out.size) (HF1.out V1.out) (HF2.out V2.out))
  clear h0
  go_wp2_with fail
  refine HG.out.mono ?_
  rintro e W4 ⟨l, A, n, c, rfl, hl, hlv, hb4⟩
  have HL := Lib.hid hl
  have HLV := Lib.hid hlv
  have HB4 := Lib.hid (HB3.out.trans (hb4.mono HB3.out.size))
  clear hl hlv hb4 k0 k1 k2 k3 HG
  go_wp2_with (refine store_big rfl _ _ rfl (Blk.new W4 27 _) false A n c rfl rfl rfl ?_; intro w5 bx5 hO hz; have hk5 : Below W4.heap.size W4 w5 := ((Below.refl _ W4).alloc (Nat.le_refl _) _).trans (hO.toBelow (by simp) (Nat.le_refl _)); clear hO hz)
  obtain ⟨g, hg⟩ : ∃ g, g = W4.heap.size := ⟨_, rfl⟩
  rw [← hg] at bx5 ⊢
  have HB5 := Lib.hid (HB4.out.trans (hk5.mono HB4.out.size))
  have HL5 := Lib.hid ((HL.out.below hk5).more hk5.size)
  clear hk5 HL hg
  refine wp_region_held_drew (S := fun W' => W'.cell? ⟨g, 0, none⟩ = some (.bool false) ∧ W'.cell? ⟨g, 1, none⟩ = some (.slice A n c)) (by kernel_rfl) ⟨bx5.cell 0, bx5.cell 1⟩ (fun hS => ?_)
  refine wpAnyH_take (i := 0) (v := .agg #[.bool false, .slice A n c]) rfl (by kernel_rfl) (by kernel_rfl) (by kernel_rfl) (fun _ _ _ h => h) (Or.inl ⟨by rfl, fun W' hS' => by obtain ⟨q0, q1⟩ := hS'; go_simp⟩) hS ?_
  simp only [Act.put, List.getElem_toArray, List.getElem_cons_zero, List.getElem_cons_succ, List.setIfInBounds_toArray, List.set_cons_zero, List.set_cons_succ]
  have hbd : Below w5.heap.size w5 w5.drew := (Below.refl _ _).drew
  refine wpAnyH_ready (rs := [1]) (by kernel_rfl) (by simp) ?_
  refine AllReadyH.cons rfl (fun Kq hKq => ?_) AllReadyH.nil
  simp only [List.getElem_toArray, List.getElem_cons_zero, List.getElem_cons_succ]
  go_simp
  refine (rMake9_ok 1 (by omega) _).mono ?_
  rintro e W6 ⟨l6, A6, c6, rfl, hv6, hl6, hb6⟩
  have hb56 := hbd.trans (hb6.mono hbd.size)
  have d6 := bx5.below hb56 bx5.lt
  obtain ⟨n6, hn6⟩ : ∃ n6, n6 = l6.length := ⟨_, rfl⟩
  rw [← hn6] at hl6 ⊢
  have HCM := Lib.hid (rCmp9_any false A A6 n c n6 c6 l l6 W6 ((HL5.out.below hb56).more hb56.size) hl6)
  rw [if_neg (by decide), hv6, HLV.out] at HCM
  have HB6 := Lib.hid (HB5.out.trans (hb56.mono HB5.out.size))
  obtain ⟨S, hSe⟩ : ∃ S, S = sgn (((Int.gcd (valL p) (valL q) : Nat) : Int) - ((1 : Nat) : Int)) := ⟨_, rfl⟩
  rw [← hSe] at HCM
  have HS := Lib.hid hSe
  refine hKq.out _ _ ⟨d6.cell 0, d6.cell 1⟩ (fun _ => ?_)
  clear hKq Kq hb6 hb56 hv6 hl6 hSe hn6
  refine wpAnyH_ready (rs := [2]) (by kernel_rfl) (by simp) ?_
  refine AllReadyH.cons rfl (fun Kq hKq => ?_) AllReadyH.nil
  simp only [List.getElem_toArray, List.getElem_cons_zero, List.getElem_cons_succ]
  go_simp
  refine HCM.out.mono ?_
  rintro e W7 ⟨rfl, hb7⟩
  have d7 := d6.below hb7 d6.lt
  have HB7 := Lib.hid (HB6.out.trans (hb7.mono HB6.out.size))
  have hS7 : W7.cell? ⟨g, 0, none⟩ = some (.bool false) ∧ W7.cell? ⟨g, 1, none⟩ = some (.slice A n c) := ⟨d7.cell 0, d7.cell 1⟩
  refine hKq.out _ _ hS7 (fun _ => ?_)
  clear hKq Kq hb7 HCM
  refine wpAnyH_take (i := 3) (v := .tuple #[.int .i64 S, .int .i64 0]) rfl (by kernel_rfl) (by kernel_rfl) (by kernel_rfl) (fun _ _ _ h => h) (Or.inl ⟨by rfl, fun W' hS' => by go_simp⟩) hS7 ?_
  simp only [Act.put, List.getElem_toArray, List.getElem_cons_zero, List.getElem_cons_succ, List.setIfInBounds_toArray, List.set_cons_zero, List.set_cons_succ]
  refine wpAnyH_take (i := 4) (v := .int .i64 S) rfl (by kernel_rfl) (by kernel_rfl) (by kernel_rfl) (fun _ _ _ h => h) (Or.inl ⟨by rfl, fun W' hS' => by go_simp⟩) hS7 ?_
  simp only [Act.put, List.getElem_toArray, List.getElem_cons_zero, List.getElem_cons_succ, List.setIfInBounds_toArray, List.set_cons_zero, List.set_cons_succ]
  refine wpAnyH_take (i := 5) (v := .int .i64 0) rfl (by kernel_rfl) (by kernel_rfl) (by kernel_rfl) (fun _ _ _ h => h) (Or.inl ⟨by rfl, fun W' hS' => by go_simp⟩) hS7 ?_
  simp only [Act.put, List.getElem_toArray, List.getElem_cons_zero, List.getElem_cons_succ, List.setIfInBounds_toArray, List.set_cons_zero, List.set_cons_succ]
  refine wpAnyH_take (i := 6) (v := .int .i64 S) rfl (by kernel_rfl) (by kernel_rfl) (by kernel_rfl) (fun _ _ _ h => h) (Or.inl ⟨by rfl, fun W' hS' => by go_simp⟩) hS7 ?_
  simp only [Act.put, List.getElem_toArray, List.getElem_cons_zero, List.getElem_cons_succ, List.setIfInBounds_toArray, List.set_cons_zero, List.set_cons_succ]
  refine wpAnyH_take (i := 7) (v := .int .i64 0) rfl (by kernel_rfl) (by kernel_rfl) (by kernel_rfl) (fun _ _ _ h => h) (Or.inl ⟨by rfl, fun W' hS' => by go_simp⟩) hS7 ?_
  simp only [Act.put, List.getElem_toArray, List.getElem_cons_zero, List.getElem_cons_succ, List.setIfInBounds_toArray, List.set_cons_zero, List.set_cons_succ]
  refine wpAnyH_done (by kernel_rfl) ?_ _
  clear hS7 d7 d6 bx5 hbd
  by_cases hs : S = 0
  · have g1 : (S != 0) = false := by rw [hs]; rfl
    have g2 : (S == 0) = true := beq_iff_eq.2 hs
    have HP := Lib.hid (show Ok10 b1 p false q from ⟨V1.out, V2.out, HLQ.out, rfl, by
      have h := HS.out
      rw [hs] at h
      have := (sgn_zero_iff _).1 h.symm
      omega⟩)
    clear hs
    go_wp2_with fail
    go_ret
    exact ⟨0, rfl, .inl ⟨rfl, HP.out⟩, HB7.out⟩
  · have g1 : (S != 0) = true := bne_iff_ne.2 hs
    have g2 : (S == 0) = false := beq_eq_false_iff_ne.2 hs
    have HN := Lib.hid (show ¬ Ok10 b1 p false q from fun h => hs (by
      rw [HS.out, h.2.2.2.2]
      rfl))
    clear hs
    go_wp2_with fail
    go_ret
    exact ⟨100, rfl, .inr ⟨rfl, HN.out⟩, HB7.out⟩
end Go.Proofs.YtkkcbkfpaoldmaaGreatDoor

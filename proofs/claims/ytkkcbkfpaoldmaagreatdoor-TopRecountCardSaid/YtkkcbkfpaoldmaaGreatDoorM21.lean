/- Several texts in one: T0, N66, TP, NP7, T1. -/
import Derived.Test.YtkkcbkfpaoldmaaGreatDoorM20
import Derived.Test.YtkkcbkfpaoldmaaGreatDoorM19
import Derived.Test.YtkkcbkfpaoldmaaGreatDoorN63
import Derived.Test.YtkkcbkfpaoldmaaGreatDoorM17
import Derived.Test.YtkkcbkfpaoldmaaGreatDoorM16
import Derived.Test.YtkkcbkfpaoldmaaGreatDoorDr
/- What TopRecount asks of its arguments before it looks at anything. -/
namespace Go.Proofs.YtkkcbkfpaoldmaaGreatDoor
open Go Go.RowKit

/-- The limit's digits in memory. -/
structure LimRd (w : World) (B : Nat) (A1 : Option Addr) (n1 c1 : Nat) (A2 : Option Addr) (n2 c2 : Nat) (p q : List Int) : Prop where
  l1 : n1 = p.length
  l2 : n2 = q.length
  k1 : n1 ≤ c1
  k2 : n2 ≤ c2
  m1 : c1 ≤ 9223372036854775807
  m2 : c2 ≤ 9223372036854775807
  z1 : A1 = none → c1 = 0
  z2 : A2 = none → c2 = 0
  r1 : MRd w B A1 p
  r2 : MRd w B A2 q
theorem LimRd.below {w w' : World} {B : Nat} {A1 A2 : Option Addr} {n1 c1 n2 c2 : Nat} {p q : List Int} (h : LimRd w B A1 n1 c1 A2 n2 c2 p q) (hb : Below B w w') : LimRd w' B A1 n1 c1 A2 n2 c2 p q := { h with r1 := h.r1.below hb, r2 := h.r2.below hb }
theorem LimRd.more {w : World} {B B' : Nat} {A1 A2 : Option Addr} {n1 c1 n2 c2 : Nat} {p q : List Int} (h : LimRd w B A1 n1 c1 A2 n2 c2 p q) (hb : B ≤ B') : LimRd w B' A1 n1 c1 A2 n2 c2 p q := { h with r1 := h.r1.more hb, r2 := h.r2.more hb }
/-- All that the law asks of its input. -/
structure TopOk (x : Crit) (nd np : Nat) (NfD NfP : Nat → Nat) (MfD MfP : Nat → Nat → Int) (b1 : Bool) (n1 : Nat) (p : List Int) (b2 : Bool) (n2 : Nat) (q : List Int) : Prop where
  cr : CrOk x.lo x.hi x.st x.ho x.tr
  m40 : Int.tdiv (x.hi - x.lo) x.st ≤ 40
  d2 : 2 ≤ nd
  d5 : nd ≤ 5
  few : FewN n1 ∧ FewN n2
  ok : Ok10 b1 p b2 q
  lim : limB b1 p q = true
  n1 : 1 ≤ nd * NfD 0
  n5 : nd * NfD 0 ≤ 5
  td : TabOk x.lo x.hi x.st nd NfD MfD nd (NfD 0)
  tp : TabOk x.lo x.hi x.st np NfP MfP nd (NfD 0)
theorem LimRd.r10 {w : World} {B : Nat} {b1 : Bool} {A1 A2 : Option Addr} {n1 c1 n2 c2 : Nat} {p q : List Int} (h : LimRd w B A1 n1 c1 A2 n2 c2 p q) (hf : FewN n1 ∧ FewN n2) (ho : Ok10 b1 p false q) : R10 w B b1 A1 n1 c1 A2 n2 c2 p q := by
  have e1 := BigOk.of_ck h.l1 h.k1 h.m1 h.z1 h.r1 ho.1
  have e2 := BigOk.of_ck h.l2 h.k2 h.m2 h.z2 h.r2 ho.2.1
  have f1 := e1.few
  have f2 := e2.few
  obtain ⟨g1, g2⟩ := hf
  unfold FewN at g1 g2
  exact ⟨e1, e2, ho, by omega, by omega⟩
theorem LimRd.lim {w : World} {B : Nat} {b1 : Bool} {A1 A2 : Option Addr} {n1 c1 n2 c2 : Nat} {p q : List Int} (h : LimRd w B A1 n1 c1 A2 n2 c2 p q) (hf : FewN n1 ∧ FewN n2) (ho : Ok10 b1 p false q) (hl : limB b1 p q = true) : b1 = false ∧ LimOk w B A1 n1 c1 A2 n2 c2 p q := by
  have e := h.r10 hf ho
  unfold limB at hl
  simp only [Bool.and_eq_true, Bool.not_eq_true', decide_eq_true_eq] at hl
  obtain ⟨⟨h1, h2⟩, h3⟩ := hl
  subst h1
  have h4 := e.few1
  have h5 := e.few2
  have h6 := e.ok.2.2.1
  exact ⟨rfl, ⟨⟨e.num, e.den, by have := e.den.len; omega, e.ok.2.2.2.2⟩, by omega, by omega, h2, h3⟩⟩
end Go.Proofs.YtkkcbkfpaoldmaaGreatDoor

/- Rows of truth values of the call's own; laws on criteria and sheets at single operations. -/
namespace Go.Proofs.YtkkcbkfpaoldmaaGreatDoor
open Go Go.RowKit Go.Shelf
attribute [local go_sem] Oper.semAt_some

theorem boolInfo_all : ∃ i, Tryz.prog.info? 4 = some i ∧ i.zero = some (.bool false) ∧ i.size = 1 ∧ i.bytes = 1 := by
  have h : (Tryz.prog.info? 4).map (fun i => (i.zero, i.size, i.bytes)) = some (some (.bool false), 1, 1) := by kernel_rfl
  obtain ⟨i, hi, h0, h1, h2⟩ := info_parts h
  exact ⟨i, hi, h0, h1, h2⟩
noncomputable def boolInfo : TypeInfo := boolInfo_all.choose
theorem boolInfo_eq : Tryz.prog.info? 4 = some boolInfo := boolInfo_all.choose_spec.1
theorem boolInfo_zero : boolInfo.zero = some (.bool false) := boolInfo_all.choose_spec.2.1
theorem boolInfo_size : boolInfo.size = 1 := boolInfo_all.choose_spec.2.2.1
theorem boolInfo_bytes : boolInfo.bytes = 1 := boolInfo_all.choose_spec.2.2.2
def bocells (l : List Bool) : List Value := l.map Value.bool
/-- A row of truth values of the call's own. -/
def BOwn (w : World) (base : Nat) (v : Value) (l : List Bool) : Prop := w.ownsRow base 4 1 v l.length (bocells l)
theorem BOwn.alloc {w : World} {base : Nat} {v : Value} {l : List Bool} (h : BOwn w base v l) (o : Obj) : BOwn (w.alloc o) base v l := World.ownsRow.alloc h o
theorem BOwn.below {w w' : World} {base : Nat} {v : Value} {l : List Bool} (h : BOwn w base v l) (hb : Below w.heap.size w w') : BOwn w' base v l :=
  World.ownsRow.kept h (row := none) ⟨hb.os, hb.tape, hb.output, hb.size, fun i hi _ => hb.block i hi⟩ (by cases v.ownBlock <;> simp)
theorem BOwn.shape {w : World} {base : Nat} {v : Value} {l : List Bool} (h : BOwn w base v l) : ∃ A c, v = .slice A l.length c ∧ l.length ≤ c ∧ c ≤ 9223372036854775807 ∧ Rd w w.heap.size A l.length (fun k => .bool (l.getD k false)) := by
  rcases h.2 with ⟨rfl, h0⟩ | ⟨g, cap, cur, rfl, hbg, hg, hnc, hcm, hcs, htake⟩
  · exact ⟨none, 0, by rw [h0], by omega, by omega, by rw [h0]; exact Rd.zero⟩
  · refine ⟨_, cap, rfl, hnc, by simp only [maxLen] at hcm; omega, fun _ => ⟨g, 0, rfl, (Array.getElem?_eq_some_iff.1 hg).1, fun k hk => ?_⟩⟩
    rw [Nat.zero_add, World.ownsRow.cellAt h k (by omega)]
    simp [bocells, List.getD_eq_getElem?_getD, List.getElem?_eq_getElem hk]
theorem src_bool {W : World} {g : Nat} {t : TypeId} (y : Bool) (h : Blk W g t #[.bool y]) : Src Tryz.prog 1 42 (.slice (some ⟨g, 0, none⟩) 1 1) 1 [.bool y] W := by
  have hR : Rd W W.heap.size (some ⟨g, 0, none⟩) (1 * 1) (fun _ => .bool y) := Rd.of_blk h h.lt fun k hk => by
    rcases k with _ | k <;> first | rfl | omega
  exact src_rd (P := Tryz.prog) W (size := 1) (tx := 42) (n := 1) (c := 1) Tryz.underlying42 hR (by omega) (fun k _ => rfl)
section
variable {ops : Array Oper} {rest : List Oper} {o : Oper} {a : Act} {Q : Exit → Act → World → Prop}
theorem app_bool (hgd : o.guard = none) (s x : Operand) (ho : o.op = .call { callee := .builtin .append, args := #[s, x], argTypes := #[42, 42] })
    (base : Nat) {w : World} (v : Value) (l : List Bool) (hs : a.eval s = v) (hown : BOwn w base v l) (y : Bool) {g : Nat} {t : TypeId} (hg : Blk w g t #[.bool y])
    (hx : a.eval x = .slice (some ⟨g, 0, none⟩) 1 1) (h47 : l.length + 1 ≤ 1000000000000) (hbase : base ≤ w.heap.size)
    (h : ∀ v' w', BOwn w' base v' (l ++ [y]) → Grew w w' v v' → wpList Tryz.prog ops Q rest (a.put o.dst v') w') : wpList Tryz.prog ops Q (o :: rest) a w :=
  wpList_append_src w hgd s x 42 42 ho base 4 boolInfo (.bool false) 1 1 Tryz.underlying42 boolInfo_eq boolInfo_zero boolInfo_size boolInfo_bytes rfl v l.length (bocells l) hs hown _ 1 [.bool y] hx (src_bool y hg)
    (by simp only [maxLen]; omega) (by omega) hbase fun v' w' h1 h2 => h v' w' (by
      show World.ownsRow w' base 4 1 v' (l ++ [y]).length (bocells (l ++ [y]))
      rw [bocells, List.map_append, List.length_append]; exact h1) h2
theorem make_bool0 (hg : o.guard = none) (l c : Operand) (hop : o.op = Op.makeSlice 42 l c) (base : Nat) {w : World} (n : Nat) (hl : a.eval l = .int .i64 0) (hc : a.eval c = .int .i64 n) (hn : n ≤ 1048576) (hb : base ≤ w.heap.size)
    (hK : ∀ w', BOwn w' base (.slice (some ⟨w.heap.size, 0, none⟩) 0 n) [] → w.grownBy w' none → wpList Tryz.prog ops Q rest (a.put o.dst (.slice (some ⟨w.heap.size, 0, none⟩) 0 n)) w') :
    wpList Tryz.prog ops Q (o :: rest) a w :=
  wpList_make_own w hg l c 42 hop base 4 boolInfo (.bool false) 1 Tryz.underlying42 boolInfo_eq boolInfo_zero boolInfo_size .i64 .i64 n n hl hc rfl (by rw [boolInfo_bytes]; omega) (by simp only [maxLen]; omega) hb
    fun w' h1 h2 => hK w' h1 h2
theorem bslice_crit (s : ByteArray) (lo hi st ho' tr : Int) (rv : Bool) (W : World) : (Instr.buildSlice 44 1 #[(0, .agg (critC s lo hi st ho' tr rv))]).run Tryz.prog W = .ok (.slice (some ⟨W.heap.size, 0, none⟩) 1 1) (W.alloc (.cells (critC s lo hi st ho' tr rv) 23)) := by kernel_rfl
/-- A slice of one criterion, at one operation. -/
theorem wp_bslice_crit {w : World} {K : Act → World → Prop} (p : Operand) (ho : o.op = .buildSlice 44 1 #[(0, p)]) (s : ByteArray) (lo hi st ho' tr : Int) (rv : Bool) (hp : a.eval p = .agg (critC s lo hi st ho' tr rv))
    (h : ∀ w', Blk w' w.heap.size 23 (critC s lo hi st ho' tr rv) → Below w.heap.size w w' → w.heap.size < w'.heap.size → K (a.put o.dst (.slice (some ⟨w.heap.size, 0, none⟩) 1 1)) w') : Oper.wp Tryz.prog o a w K Q := by
  have h1 := h (w.alloc (.cells (critC s lo hi st ho' tr rv) 23)) (Blk.new _ _ _) ((Below.refl _ _).alloc (Nat.le_refl _) _) (by simp)
  unfold Oper.wp execOp
  simp only [ho, List.map_toArray, List.map_cons, List.map_nil, hp, Sem.run_bind, Result.andThen_ok, bslice_crit]
  exact h1
theorem built_sheet (no en ju : Int) (Ab : Option Addr) (kb : Nat) : Tryz.prog.built 46 [(0, .int .i64 no), (2, .int .i64 en), (3, .int .i64 ju), (4, .slice Ab 1 kb)] = some (sheetC no 0 en ju Ab kb) := by kernel_rfl
theorem sheetSize : (Tryz.prog.info? 46).map (·.size) = some 5 := by kernel_rfl
theorem sheetZero : (Tryz.prog.info? 46).bind (·.zero) = some (.agg #[.int .i64 0, .int .i64 0, .int .i64 0, .int .i64 0, .slice none 0 0]) := by kernel_rfl
theorem wp_store_sheet {K : Act → World → Prop} (p y : Operand) (ho : o.op = .store 46 p y) {w : World} {g : Nat} {c : Array Value} {tt : TypeId} (hg : Blk w g tt c) (no rd en ju : Int) (Ab : Option Addr) (kb : Nat)
    (hx : a.eval p = .pointer (some ⟨g, 0, none⟩)) (hy : a.eval y = .agg (sheetC no rd en ju Ab kb)) (hold : c.size = 5)
    (h : ∀ w', Blk w' g tt (sheetC no rd en ju Ab kb) → Only w w' g → w'.heap.size = w.heap.size → K (a.put o.dst undef) w') : o.wp Tryz.prog a w K Q :=
  wp_store_row 46 p y ho g _ hx hy tt c hg sheetSize (by rw [hold]; rfl) (by simp [Value.oneCell'])
    (h _ (setRow_heap w g c _ tt _ hg) ⟨rfl, rfl, rfl, by simp, fun i _ hne => setRow_other w g i _ (fun e => hne (by rw [e]))⟩ (by simp))
theorem wp_alloc_sheet {w : World} {K : Act → World → Prop} (ho : o.op = .alloc 46)
    (h : ∀ w' c, c.size = 5 → Blk w' w.heap.size 46 c → Below w.heap.size w w' → w.heap.size < w'.heap.size → K (a.put o.dst (.pointer (some ⟨w.heap.size, 0, none⟩))) w') : Oper.wp Tryz.prog o a w K Q := by
  have h1 := h (w.alloc (.cells #[.int .i64 0, .int .i64 0, .int .i64 0, .int .i64 0, .slice none 0 0] 46)) _ rfl (Blk.new _ _ _) ((Below.refl _ _).alloc (Nat.le_refl _) _) (by simp)
  obtain ⟨dst, op, ty, pos, aft, gd⟩ := o
  simp only at ho
  subst ho
  go_simp
  exact h1
end
end Go.Proofs.YtkkcbkfpaoldmaaGreatDoor

/- Plain laws of TopRecount: which sheets agree, how many do not. -/
namespace Go.Proofs.YtkkcbkfpaoldmaaGreatDoor
open Go Go.RowKit

/-- Does sheet s agree? -/
def agF (MfD MfP : Nat → Nat → Int) (ju : Nat) (smb : Nat → Bool) (s : Nat) : Bool := !smb s && decide (MfP (s / ju) (s % ju) = MfD (s / ju) (s % ju))
def agOf (MfD MfP : Nat → Nat → Int) (ju : Nat) (smb : Nat → Bool) (t : Nat) : List Bool := (List.range t).map (agF MfD MfP ju smb)
theorem agOf_succ (MfD MfP : Nat → Nat → Int) (ju : Nat) (smb : Nat → Bool) (t : Nat) : agOf MfD MfP ju smb (t + 1) = agOf MfD MfP ju smb t ++ [agF MfD MfP ju smb t] := by simp [agOf, List.range_succ]
theorem agOf_len (MfD MfP : Nat → Nat → Int) (ju : Nat) (smb : Nat → Bool) (t : Nat) : (agOf MfD MfP ju smb t).length = t := by simp [agOf]
theorem off_add (l : List Bool) (x : Bool) : offOf (l ++ [x]) = offOf l + if x then 0 else 1 := by
  cases x <;> simp [offOf, List.countP_append]
theorem off_le (l : List Bool) : offOf l ≤ l.length := List.countP_le_length
theorem cell_at {a c ju nd : Nat} (hc : c < ju) (ha : a < nd) : (a * ju + c) / ju = a ∧ (a * ju + c) % ju = c ∧ a * ju + c < nd * ju := by
  refine ⟨?_, ?_, ?_⟩
  · rw [Nat.mul_comm, Nat.mul_add_div (by omega), Nat.div_eq_of_lt hc, Nat.add_zero]
  · rw [Nat.mul_comm, Nat.mul_add_mod, Nat.mod_eq_of_lt hc]
  · have h : (a + 1) * ju ≤ nd * ju := Nat.mul_le_mul_right _ ha
    rw [Nat.add_mul, Nat.one_mul] at h
    omega
/-- The sheet of a round as it lies in memory. -/
structure Sh36 (w W : World) (gs gv kb gb nb : Nat) (t a c : Int) (bx : List Int) : Prop where
  below : Below w.heap.size w W
  sh : Blk W gs 46 (sheetC t 0 a c (some ⟨gv, 0, none⟩) kb)
  row : SOwn W w.heap.size (.slice (some ⟨gv, 0, none⟩) 1 kb) [.slice (some ⟨gb, 0, none⟩) nb nb]
  box : IOwn W w.heap.size (.slice (some ⟨gb, 0, none⟩) nb nb) bx
  len : bx.length = nb
  ne0 : w.heap.size ≤ gs
  ne1 : gs ≠ gv
  ne2 : gs ≠ gb
  ne3 : gv ≠ gb
theorem own_some (g n c : Nat) : (Value.slice (some ⟨g, 0, none⟩) n c).ownBlock = some g := by simp [Value.ownBlock]
theorem Sh36.smudge {w W : World} {gs gv kb gb nb : Nat} {t a c : Int} {bx : List Int} (h : Sh36 w W gs gv kb gb nb t a c bx) : Sh36 w (W.setCell ⟨gb, 0, none⟩ (.int .i64 2)) gs gv kb gb nb t a c (bx.set 0 2) := by
  have h1 := h.box.set h.len 0 2
  have hg : W.grownBy (W.setCell ⟨gb, 0, none⟩ (.int .i64 2)) (some gb) := by
    have h2 := h1.2.1
    rw [own_some] at h2
    exact h2
  have hl := (World.ownsRow.lt h.box gb (own_some _ _ _)).1
  exact ⟨h.below.trans (Only.toBelow hg (h.below.size) hl), h.sh.grown hg (fun e => h.ne2 (Option.some.inj e)), World.ownsRow.kept h.row hg (.inr (by rw [own_some]; intro e; exact h.ne3 (Option.some.inj e))), h1.1, by rw [List.length_set]; exact h.len, h.ne0, h.ne1, h.ne2, h.ne3⟩
theorem Sh36.of_below {w W W' : World} {gs gv kb gb nb : Nat} {t a c : Int} {bx : List Int} (h : Sh36 w W gs gv kb gb nb t a c bx) (hb : Below W.heap.size W W') : Sh36 w W' gs gv kb gb nb t a c bx :=
  ⟨h.below.trans (hb.mono h.below.size), h.sh.below hb h.sh.lt, h.row.below hb, h.box.below hb, h.len, h.ne0, h.ne1, h.ne2, h.ne3⟩
theorem Sh36.hv {w W : World} {gs gv kb gb nb : Nat} {t a c : Int} {bx : List Int} (h : Sh36 w W gs gv kb gb nb t a c bx) : Rd W W.heap.size (some ⟨gv, 0, none⟩) 1 (fun _ => .slice (some ⟨gb, 0, none⟩) nb nb) := by
  obtain ⟨A, c2, e, -, -, hR⟩ := h.row.shape
  simp only [Value.slice.injEq] at e
  rw [e.1]
  exact hR.congr fun k hk => by
    obtain rfl : k = 0 := by simp at hk; omega
    rfl
theorem Sh36.hb {w W : World} {gs gv kb gb nb : Nat} {t a c : Int} {bx : List Int} (h : Sh36 w W gs gv kb gb nb t a c bx) : Rd W W.heap.size (some ⟨gb, 0, none⟩) nb (fun k => .int .i64 (bx.getD k 0)) := h.box.rd h.len
/-- Behind the filling: the sheet is stored. -/
theorem sh36_of {w W3 W4 : World} {gs gv kb gb nb : Nat} {t a c : Int} {bx : List Int} (hb : Below w.heap.size w W3) (hgs : w.heap.size ≤ gs) (hr : SOwn W3 w.heap.size (.slice (some ⟨gv, 0, none⟩) 1 kb) [.slice (some ⟨gb, 0, none⟩) nb nb]) (hx : IOwn W3 w.heap.size (.slice (some ⟨gb, 0, none⟩) nb nb) bx) (hl : bx.length = nb)
    (n1 : gs ≠ gv) (n2 : gs ≠ gb) (n3 : gv ≠ gb) (hs : Blk W4 gs 46 (sheetC t 0 a c (some ⟨gv, 0, none⟩) kb)) (ho : Only W3 W4 gs) : Sh36 w W4 gs gv kb gb nb t a c bx :=
  ⟨hb.trans (ho.toBelow hb.size hgs), hs, World.ownsRow.kept hr ho (.inr (by rw [own_some]; intro e; exact n1 (Option.some.inj e).symm)), World.ownsRow.kept hx ho (.inr (by rw [own_some]; intro e; exact n2 (Option.some.inj e).symm)), hl, hgs, n1, n2, n3⟩
theorem fillL_len (nb t : Nat) : (fillL nb t).length = nb := by simp [fillL]
theorem Sh36.cells {w W : World} {gs gv kb gb nb : Nat} {t a c : Int} {bx : List Int} (h : Sh36 w W gs gv kb gb nb t a c bx) (h0 : 0 < nb) : W.cell? ⟨gs, 4, none⟩ = some (.slice (some ⟨gv, 0, none⟩) 1 kb) ∧ W.cell? ⟨gv, 0, none⟩ = some (.slice (some ⟨gb, 0, none⟩) nb nb) ∧ W.cell? ⟨gb, 0, none⟩ = some (.int .i64 (bx.getD 0 0)) ∧ W.frozen? ⟨gb, 0, none⟩ = false :=
  ⟨h.sh.cell 4, World.ownsRow.cellAt h.row 0 (by simp), h.box.cellAt h.len h0, h.box.frozenAt h.len 0⟩
end Go.Proofs.YtkkcbkfpaoldmaaGreatDoor

/- Plain laws of TopRecount: a wrong podium wants as many sheets that do not agree as the margin says; orders. -/
namespace Go.Proofs.YtkkcbkfpaoldmaaGreatDoor
open Go Go.RowKit

def sumN (g : Nat → Nat) : Nat → Nat
  | 0 => 0
  | k + 1 => sumN g k + g k
theorem sumN_one (g : Nat → Nat) (f : Nat) : ∀ n, f < n → g f ≤ sumN g n
  | 0, h => by omega
  | n + 1, h => by
    rw [sumN]
    by_cases e : f = n
    · subst e; omega
    · have := sumN_one g f n (by omega)
      omega
theorem sumN_two (g : Nat → Nat) (f q : Nat) (hne : f ≠ q) : ∀ n, f < n → q < n → g f + g q ≤ sumN g n
  | 0, h, _ => by omega
  | n + 1, h1, h2 => by
    rw [sumN]
    by_cases e1 : f = n
    · subst e1
      have := sumN_one g q f (by omega)
      omega
    · by_cases e2 : q = n
      · subst e2
        have := sumN_one g f q (by omega)
        omega
      · have := sumN_two g f q hne n (by omega) (by omega)
        omega
/-- How many marks of a row differ. -/
def cntR (MfD MfP : Nat → Nat → Int) (k : Nat) : Nat → Nat
  | 0 => 0
  | j + 1 => cntR MfD MfP k j + if MfP k j = MfD k j then 0 else 1
theorem cntR_le (MfD MfP : Nat → Nat → Int) (k : Nat) : ∀ j, cntR MfD MfP k j ≤ j
  | 0 => Nat.le_refl _
  | j + 1 => by
    have := cntR_le MfD MfP k j
    rw [cntR]
    split <;> omega
theorem row_diff {lo hi st : Int} (rv : Bool) (MfD MfP : Nat → Nat → Int) (k : Nat) (S : Int) (hS : S = hi - lo) : ∀ m, (∀ j, j < m → OnSc lo hi st (MfD k j) ∧ OnSc lo hi st (MfP k j)) →
    sumTo (fun j => bet lo hi rv (MfD k j)) m - sumTo (fun j => bet lo hi rv (MfP k j)) m ≤ (cntR MfD MfP k m : Int) * S ∧ sumTo (fun j => bet lo hi rv (MfP k j)) m - sumTo (fun j => bet lo hi rv (MfD k j)) m ≤ (cntR MfD MfP k m : Int) * S
  | 0, _ => by simp [sumTo, cntR]
  | m + 1, h => by
    have ih := row_diff rv MfD MfP k S hS m fun j hj => h j (by omega)
    obtain ⟨h1, h2⟩ := h m (by omega)
    have a1 := h1.1
    have a2 := h1.2.1
    have a3 := h2.1
    have a4 := h2.2.1
    rw [sumTo, sumTo, cntR]
    by_cases e : MfP k m = MfD k m
    · rw [if_pos e, e, Nat.add_zero]
      omega
    · rw [if_neg e]
      have e1 : ((cntR MfD MfP k m + 1 : Nat) : Int) * S = (cntR MfD MfP k m : Int) * S + S := by rw [Int.natCast_add, Int.add_mul, Int.natCast_one, Int.one_mul]
      rw [e1]
      obtain ⟨C, hC⟩ : ∃ C, C = (cntR MfD MfP k m : Int) * S := ⟨_, rfl⟩
      rw [← hC] at ih ⊢
      have b1 : bet lo hi rv (MfD k m) - bet lo hi rv (MfP k m) ≤ S ∧ bet lo hi rv (MfP k m) - bet lo hi rv (MfD k m) ≤ S := by
        unfold bet
        split <;> omega
      omega
theorem off_row (MfD MfP : Nat → Nat → Int) (ju : Nat) (smb : Nat → Bool) (a : Nat) : ∀ c, c ≤ ju → offOf (agOf MfD MfP ju smb (a * ju)) + cntR MfD MfP a c ≤ offOf (agOf MfD MfP ju smb (a * ju + c))
  | 0, _ => by simp [cntR]
  | c + 1, h => by
    have ih := off_row MfD MfP ju smb a c (by omega)
    obtain ⟨q1, q2, -⟩ := cell_at (a := a) (c := c) (ju := ju) (nd := a + 1) (by omega) (by omega)
    rw [← Nat.add_assoc, agOf_succ, off_add, cntR]
    by_cases e : MfP a c = MfD a c
    · rw [if_pos e]
      split <;> omega
    · have e2 : agF MfD MfP ju smb (a * ju + c) = false := by
        unfold agF
        rw [q1, q2, decide_eq_false e, Bool.and_false]
      rw [if_neg e, e2]
      simp
      omega
theorem off_all (MfD MfP : Nat → Nat → Int) (ju : Nat) (smb : Nat → Bool) : ∀ n, sumN (fun k => cntR MfD MfP k ju) n ≤ offOf (agOf MfD MfP ju smb (n * ju))
  | 0 => by simp [sumN]
  | n + 1 => by
    have ih := off_all MfD MfP ju smb n
    have h := off_row MfD MfP ju smb n ju (Nat.le_refl _)
    rw [Nat.add_mul, Nat.one_mul, sumN]
    omega
/-- A wrong podium: at least as many sheets do not agree as the margin says. -/
theorem wrong_margin {lo hi st ho tr : Int} (rv : Bool) (_hc : CrOk lo hi st ho tr) (MfD MfP : Nat → Nat → Int) (nd ju : Nat) (hd : ∀ k, k < nd → ∀ j, j < ju → OnSc lo hi st (MfD k j)) (hp : ∀ k, k < nd → ∀ j, j < ju → OnSc lo hi st (MfP k j)) (smb : Nat → Bool) (f : Nat) (hf : f < nd) (v : Nat)
    (hM : MarOk (rowSum lo hi rv MfD ju) f (hi - lo) (2 * ju) nd v) (hw : ∃ q, q < nd ∧ rowSum lo hi rv MfP ju f < rowSum lo hi rv MfP ju q) : v ≤ 2 * ju ∧ v ≤ offOf (agOf MfD MfP ju smb (nd * ju)) := by
  obtain ⟨q, hq, hlt⟩ := hw
  have hne : q ≠ f := fun e => by rw [e] at hlt; omega
  obtain ⟨u, hu, hvu⟩ := hM.all q hq hne
  have r1 := row_diff (st := st) rv MfD MfP f (hi - lo) rfl ju fun j hj => ⟨hd f hf j hj, hp f hf j hj⟩
  have r2 := row_diff (st := st) rv MfD MfP q (hi - lo) rfl ju fun j hj => ⟨hd q hq j hj, hp q hq j hj⟩
  have c1 := cntR_le MfD MfP f ju
  have c2 := cntR_le MfD MfP q ju
  have hall := off_all MfD MfP ju smb nd
  have htwo := sumN_two (fun k => cntR MfD MfP k ju) f q (fun e => hne e.symm) nd hf hq
  have hle : u ≤ cntR MfD MfP f ju + cntR MfD MfP q ju := by
    rcases Nat.lt_or_ge (cntR MfD MfP f ju + cntR MfD MfP q ju) u with h | h
    · exfalso
      have h1 := hu.less _ h (by omega)
      rw [Int.natCast_add, Int.add_mul] at h1
      unfold rowSum at h1 hlt
      obtain ⟨C1, hC1⟩ : ∃ C, C = (cntR MfD MfP f ju : Int) * (hi - lo) := ⟨_, rfl⟩
      obtain ⟨C2, hC2⟩ : ∃ C, C = (cntR MfD MfP q ju : Int) * (hi - lo) := ⟨_, rfl⟩
      rw [← hC1] at r1 h1
      rw [← hC2] at r2 h1
      omega
    · exact h
  omega
/-- The margin is at least one. -/
theorem MarOk.pos {sf : Nat → Int} {first : Nat} {S : Int} {m k v : Nat} (h : MarOk sf first S m k v) (hmx : ∀ q, q < k → sf q ≤ sf first) : 1 ≤ v := by
  rcases h.one with h1 | ⟨q, h1, h2, h3⟩
  · omega
  · rcases Nat.eq_zero_or_pos v with h0 | h0
    · subst h0
      have h4 := h3.enough (by omega)
      have h5 := hmx q h1
      simp at h4
      omega
    · exact h0
theorem off_zero {l : List Bool} (h : offOf l = 0) {i : Nat} (hi : i < l.length) : l.getD i false = true := by
  unfold offOf at h
  rw [List.countP_eq_zero] at h
  have h1 := h l[i] (List.getElem_mem hi)
  rw [List.getD_eq_getElem?_getD, List.getElem?_eq_getElem hi]
  simpa using h1
/-- An order of n sheets. -/
def OrdOk (n : Nat) (o : List Int) : Prop := o.length = n ∧ (∀ k, k < n → 0 ≤ o.getD k 0 ∧ o.getD k 0 < (n : Int)) ∧ o.Nodup
instance (n : Nat) (o : List Int) : Decidable (OrdOk n o) := inferInstanceAs (Decidable (_ ∧ _))
theorem perms_ord : ∀ n, n ≤ 5 → ∀ o ∈ permsL n, OrdOk n o
  | 0, _ => by decide +kernel
  | 1, _ => by decide +kernel
  | 2, _ => by decide +kernel
  | 3, _ => by decide +kernel
  | 4, _ => by decide +kernel
  | 5, _ => by decide +kernel
  | n + 6, h => by omega
theorem OrdOk.all {n : Nat} {o : List Int} (h : OrdOk n o) {ag : List Bool} (hl : ag.length = n) (h0 : offOf ag = 0) : ∀ x ∈ o, ag.getD x.toNat false = true := fun x hx => by
  obtain ⟨i, hi, rfl⟩ := List.mem_iff_getElem.1 hx
  have h1 := h.2.1 i (by rw [← h.1]; exact hi)
  rw [List.getD_eq_getElem?_getD, List.getElem?_eq_getElem hi] at h1
  simp only [Option.getD_some] at h1
  exact off_zero h0 (by rw [hl]; omega)
theorem swapL_rng {n : Nat} {l : List Int} (h : ∀ k, k < l.length → 0 ≤ l.getD k 0 ∧ l.getD k 0 < (n : Int)) (i k : Nat) (hi : i < l.length) (hk : k < l.length) : ∀ p, p < (swapL l i k).length → 0 ≤ (swapL l i k).getD p 0 ∧ (swapL l i k).getD p 0 < (n : Int) := fun p hp => by
  rw [swapL_length] at hp
  rw [getD_swapL l i k p hi hk]
  split
  · exact h i hi
  · split
    · exact h k hk
    · exact h p hp
theorem shuf_good {n : Nat} (ks : Nat → Nat) (hks : ∀ i, ks i ≤ i) : ∀ (i : Nat) (l : List Int), (i < l.length ∨ i = 0) → Dis l → (∀ k, k < l.length → 0 ≤ l.getD k 0 ∧ l.getD k 0 < (n : Int)) → Dis (shuf ks i l) ∧ ∀ k, k < (shuf ks i l).length → 0 ≤ (shuf ks i l).getD k 0 ∧ (shuf ks i l).getD k 0 < (n : Int)
  | 0, l, _, hd, hr => ⟨hd, hr⟩
  | i + 1, l, hi, hd, hr => by
    have h1 : i + 1 < l.length := by omega
    have hk := hks (i + 1)
    rw [shuf]
    exact shuf_good ks hks i _ (.inl (by rw [swapL_length]; omega)) (hd.swap _ _ h1 (by omega)) (swapL_rng hr _ _ h1 (by omega))
theorem order_ok (d : List UInt8) (n : Nat) : OrdOk n (orderOf d n) := by
  have hl := orderOf_length d n
  have hg := shuf_good (n := n) (pick d) (pick_le d) (n - 1) (iota n) (by rw [iota_length]; omega) (dis_iota n) (fun k hk => by
    rw [iota_length] at hk
    rw [iota_getD n k hk]
    omega)
  refine ⟨hl, fun k hk => hg.2 k (by show k < (orderOf d n).length; omega), ?_⟩
  rw [List.nodup_iff_pairwise_ne, List.pairwise_iff_getElem]
  intro i j hi hj hij e
  have h := hg.1 i j hi hj (by
    show (orderOf d n).getD i 0 = (orderOf d n).getD j 0
    rw [List.getD_eq_getElem?_getD, List.getD_eq_getElem?_getD, List.getElem?_eq_getElem hi, List.getElem?_eq_getElem hj, e])
  omega
theorem valL_120 : valL [120] = 120 := by simp [valL, dsum, dg, bp]
/-- How many of the first k orders are confirmed. -/
theorem conf_succ (nd : Nat) (ag : List Bool) (L : List (List Int)) (k : Nat) (h : k < L.length) : confOf nd ag (L.take (k + 1)) = confOf nd ag (L.take k) + if (runO nd ag (L.getD k [])).1 = 1 then 1 else 0 := by
  unfold confOf
  rw [List.take_add_one, List.getElem?_eq_getElem h, Option.toList_some, List.countP_append, List.countP_singleton, List.getD_eq_getElem?_getD, List.getElem?_eq_getElem h]
  simp
theorem conf_le (nd : Nat) (ag : List Bool) (L : List (List Int)) (k : Nat) : confOf nd ag (L.take k) ≤ k := by
  unfold confOf
  refine Nat.le_trans List.countP_le_length ?_
  rw [List.length_take]
  omega
end Go.Proofs.YtkkcbkfpaoldmaaGreatDoor

/- Walk: TopRecount returns true where its input is not what it asks for. (written by gen_t1.py) -/
namespace Go.Proofs.YtkkcbkfpaoldmaaGreatDoor
open Go Go.RowKit Go.Shelf
attribute [local go_sem] Oper.semAt_some

set_option maxRecDepth 100000 in
set_option linter.unusedSimpArgs false in
set_option linter.unusedVariables false in
set_option maxHeartbeats 16000000 in
theorem top_bad (x : Crit) (Ad Ap : Option Addr) (nd cd np cp : Nat) (AfD AfP : Nat → Option Addr) (NfD CfD NfP CfP : Nat → Nat) (MfD MfP : Nat → Nat → Int) (sm : Int) (b1 b2 : Bool) (A1 A2 : Option Addr) (n1 c1 n2 c2 : Nat) (p q : List Int) (d : List UInt8)
    (w : World) (hD : MatRd w w.heap.size Ad nd AfD NfD CfD MfD) (hP : MatRd w w.heap.size Ap np AfP NfP CfP MfP) (hLm : LimRd w w.heap.size A1 n1 c1 A2 n2 c2 p q) (hju : ∀ k, k < nd → NfD k ≤ 17592186044416) (hnd : nd ≤ 9223372036854775807)
    (G : ¬ TopOk x nd np NfD NfP MfD MfP b1 n1 p b2 n2 q) :
    Calls Tryz.prog 3 #[.agg x.c, .slice Ad nd cd, .slice Ap np cp, .int .u8 sm, .agg (ratD b1 A1 n1 c1 b2 A2 n2 c2), .agg (dig d)] w (Ret (.bool true) w) := by
  have HG := Lib.hid G
  have HT57 := Lib.hid (fun (hc : CrOk x.lo x.hi x.st x.ho x.tr) A n c Af Nf Cf Mf en ju he hj W hR => table57_any x hc A n c Af Nf Cf Mf en ju he hj W hR)
  obtain ⟨xs, lo, hi, st, ho, tr, rv⟩ := x
  simp only [Crit.c] at HG HT57 ⊢
  have HRT := Lib.hid (fun W => right16_any xs lo hi st ho tr rv W)
  have HFW := Lib.hid (fun W => few10_any b1 b2 A1 A2 n1 c1 n2 c2 W)
  have HCK := Lib.hid (fun (hf : FewN n1 ∧ FewN n2) W (h : Below w.heap.size w W) => rCheck10_any b1 b2 A1 A2 n1 c1 n2 c2 p q W hLm.l1 hLm.l2 hLm.k1 hLm.k2 hLm.m1 hLm.m2 hLm.z1 hLm.z2 ((hLm.r1.below h).more h.size) ((hLm.r2.below h).more h.size) (by obtain ⟨f1, f2⟩ := hf; unfold FewN at f1 f2; omega) (by obtain ⟨f1, f2⟩ := hf; unfold FewN at f1 f2; omega) (by obtain ⟨f1, f2⟩ := hf; unfold FewN at f1 f2; omega) (by obtain ⟨f1, f2⟩ := hf; unfold FewN at f1 f2; omega))
  have HLI := Lib.hid (fun (hf : FewN n1 ∧ FewN n2) (ho : Ok10 b1 p false q) W (h : Below w.heap.size w W) => rLimit56_ok b1 A1 A2 n1 c1 n2 c2 p q W (((hLm.below h).more h.size).r10 hf ho))
  have HD := Lib.hid hD
  have HP := Lib.hid hP
  have HJU := Lib.hid hju
  clear hD hP hLm hju G
  go_enter Tryz.func3, Tryz.ntmps3
  go_wp2_with fail
  refine calls_gen (fun W => Blk W w.heap.size 23 (critC xs lo hi st ho tr rv) ∧ Blk W (w.heap.size + 1) 29 (ratD b1 A1 n1 c1 b2 A2 n2 c2) ∧ Below w.heap.size w W)
    ⟨((Blk.new _ _ _).alloc _).alloc _, (Blk.new' _ _ _ (by simp)).alloc _, (((Below.refl _ w).alloc (Nat.le_refl _) _).alloc (by simp) _).alloc (by simp; omega) _⟩ (fun W0 ⟨b0, b1', hB0⟩ => ?_)
  have BC0 := Lib.hid b0
  have BR0 := Lib.hid b1'
  have HB0 := Lib.hid hB0
  clear b0 b1' hB0
  refine (kNeed_zero W0).mono ?_
  rintro e W1 ⟨rfl, hb⟩
  have BC1 := Lib.hid (BC0.out.below hb BC0.out.lt)
  have BR1 := Lib.hid (BR0.out.below hb BR0.out.lt)
  have HB1 := Lib.hid (HB0.out.trans (hb.mono HB0.out.size))
  clear hb BC0 BR0 HB0 
  have qc0 : W1.cell? ⟨w.heap.size, 0, none⟩ = some (.string xs) := BC1.out.cell 0
  have qc1 : W1.cell? ⟨w.heap.size, 1, none⟩ = some (.int .i64 lo) := BC1.out.cell 1
  have qc2 : W1.cell? ⟨w.heap.size, 2, none⟩ = some (.int .i64 hi) := BC1.out.cell 2
  have qc3 : W1.cell? ⟨w.heap.size, 3, none⟩ = some (.int .i64 st) := BC1.out.cell 3
  have qc4 : W1.cell? ⟨w.heap.size, 4, none⟩ = some (.int .i64 ho) := BC1.out.cell 4
  have qc5 : W1.cell? ⟨w.heap.size, 5, none⟩ = some (.int .i64 tr) := BC1.out.cell 5
  have qc6 : W1.cell? ⟨w.heap.size, 6, none⟩ = some (.bool rv) := BC1.out.cell 6
  go_wp2_with fail
  refine (HRT.out W1).mono ?_
  rintro e W2 ⟨r, rfl, hr, hb⟩
  have BC2 := Lib.hid (BC1.out.below hb BC1.out.lt)
  have BR2 := Lib.hid (BR1.out.below hb BR1.out.lt)
  have HB2 := Lib.hid (HB1.out.trans (hb.mono HB1.out.size))
  clear hb BC1 BR1 HB1 qc0 qc1 qc2 qc3 qc4 qc5 qc6
  cases r with
  | false =>
    go_wp2_with fail
    go_ret
    exact ⟨rfl, HB2.out⟩
  | true =>
    have hcr := hr.1 rfl
    have k1 := hcr.l0
    have k2 := hcr.lh
    have k3 := hcr.h1
    have k4 := hcr.s1
    have HCR := Lib.hid hcr
    have s0 : (st == 0) = false := beq_eq_false_iff_ne.2 (by omega)
    have s0n : ¬ st = 0 := by omega
    have hws : wrap64 (hi - lo) = hi - lo := wrap_in _ (by omega)
    obtain ⟨m0, hm0⟩ : ∃ m, m = Int.tdiv (hi - lo) st := ⟨_, rfl⟩
    have f5 : Int.tdiv (hi - lo) st = m0 := hm0.symm
    have hm0r : 0 ≤ m0 ∧ m0 ≤ 1000 := by
      rw [hm0, Int.tdiv_eq_ediv_of_nonneg (by omega)]
      exact ⟨Int.ediv_nonneg (by omega) (by omega), Int.le_trans (Int.ediv_le_self _ (by omega)) (by omega)⟩
    have HM0 := Lib.hid hm0
    clear hr hcr hm0
    have qc0 : W2.cell? ⟨w.heap.size, 0, none⟩ = some (.string xs) := BC2.out.cell 0
    have qc1 : W2.cell? ⟨w.heap.size, 1, none⟩ = some (.int .i64 lo) := BC2.out.cell 1
    have qc2 : W2.cell? ⟨w.heap.size, 2, none⟩ = some (.int .i64 hi) := BC2.out.cell 2
    have qc3 : W2.cell? ⟨w.heap.size, 3, none⟩ = some (.int .i64 st) := BC2.out.cell 3
    have qc4 : W2.cell? ⟨w.heap.size, 4, none⟩ = some (.int .i64 ho) := BC2.out.cell 4
    have qc5 : W2.cell? ⟨w.heap.size, 5, none⟩ = some (.int .i64 tr) := BC2.out.cell 5
    have qc6 : W2.cell? ⟨w.heap.size, 6, none⟩ = some (.bool rv) := BC2.out.cell 6
    by_cases hc : 40 < m0
    · skip
      have t1 : decide ((40 : Int) < m0) = true := decide_eq_true hc
      clear hc
      go_wp2_with fail
      go_ret
      exact ⟨rfl, HB2.out⟩
    have t1 : decide ((40 : Int) < m0) = false := decide_eq_false hc
    have H40 := Lib.hid hc
    clear hc
    by_cases hc : nd < 2
    · skip
      have t2 : decide ((nd : Int) < 2) = true := decide_eq_true (by omega)
      have t2n : decide (nd < 2) = true := decide_eq_true hc
      clear hc
      go_wp2_with fail
      go_ret
      exact ⟨rfl, HB2.out⟩
    have t2 : decide ((nd : Int) < 2) = false := decide_eq_false (by omega)
    have t2n : decide (nd < 2) = false := decide_eq_false hc
    have H2 := Lib.hid hc
    clear hc
    by_cases hc : 5 < nd
    · skip
      have t3 : decide ((5 : Int) < (nd : Int)) = true := decide_eq_true (by omega)
      have t3n : decide (5 < nd) = true := decide_eq_true hc
      clear hc
      go_wp2_with fail
      go_ret
      exact ⟨rfl, HB2.out⟩
    have t3 : decide ((5 : Int) < (nd : Int)) = false := decide_eq_false (by omega)
    have t3n : decide (5 < nd) = false := decide_eq_false hc
    have H5 := Lib.hid hc
    clear hc
    clear qc0 qc1 qc2 qc3 qc4 qc5 qc6
    have qc0 : W2.cell? ⟨w.heap.size, 0, none⟩ = some (.string xs) := BC2.out.cell 0
    have qc1 : W2.cell? ⟨w.heap.size, 1, none⟩ = some (.int .i64 lo) := BC2.out.cell 1
    have qc2 : W2.cell? ⟨w.heap.size, 2, none⟩ = some (.int .i64 hi) := BC2.out.cell 2
    have qc3 : W2.cell? ⟨w.heap.size, 3, none⟩ = some (.int .i64 st) := BC2.out.cell 3
    have qc4 : W2.cell? ⟨w.heap.size, 4, none⟩ = some (.int .i64 ho) := BC2.out.cell 4
    have qc5 : W2.cell? ⟨w.heap.size, 5, none⟩ = some (.int .i64 tr) := BC2.out.cell 5
    have qc6 : W2.cell? ⟨w.heap.size, 6, none⟩ = some (.bool rv) := BC2.out.cell 6
    have qr0 : W2.cell? ⟨w.heap.size + 1, 0, none⟩ = some (.bool b1) := BR2.out.cell 0
    have qr1 : W2.cell? ⟨w.heap.size + 1, 1, none⟩ = some (.slice A1 n1 c1) := BR2.out.cell 1
    have qr2 : W2.cell? ⟨w.heap.size + 1, 2, none⟩ = some (.bool b2) := BR2.out.cell 2
    have qr3 : W2.cell? ⟨w.heap.size + 1, 3, none⟩ = some (.slice A2 n2 c2) := BR2.out.cell 3
    go_wp2_with fail
    refine (HFW.out W2).mono ?_
    rintro e W3 ⟨rfl, hb⟩
    have BC3 := Lib.hid (BC2.out.below hb BC2.out.lt)
    have BR3 := Lib.hid (BR2.out.below hb BR2.out.lt)
    have HB3 := Lib.hid (HB2.out.trans (hb.mono HB2.out.size))
    clear hb BC2 BR2 HB2 qc0 qc1 qc2 qc3 qc4 qc5 qc6 qr0 qr1 qr2 qr3
    obtain ⟨fw, hfw⟩ : ∃ b, b = (decide (FewN n1) && decide (FewN n2)) := ⟨_, rfl⟩
    rw [← hfw]
    cases fw with
    | false =>
      clear hfw
      go_wp2_with fail
      go_ret
      exact ⟨rfl, HB3.out⟩
    | true =>
      have hf2 : FewN n1 ∧ FewN n2 := by simpa using hfw.symm
      have HF2 := Lib.hid hf2
      clear hfw hf2
      have qc0 : W3.cell? ⟨w.heap.size, 0, none⟩ = some (.string xs) := BC3.out.cell 0
      have qc1 : W3.cell? ⟨w.heap.size, 1, none⟩ = some (.int .i64 lo) := BC3.out.cell 1
      have qc2 : W3.cell? ⟨w.heap.size, 2, none⟩ = some (.int .i64 hi) := BC3.out.cell 2
      have qc3 : W3.cell? ⟨w.heap.size, 3, none⟩ = some (.int .i64 st) := BC3.out.cell 3
      have qc4 : W3.cell? ⟨w.heap.size, 4, none⟩ = some (.int .i64 ho) := BC3.out.cell 4
      have qc5 : W3.cell? ⟨w.heap.size, 5, none⟩ = some (.int .i64 tr) := BC3.out.cell 5
      have qc6 : W3.cell? ⟨w.heap.size, 6, none⟩ = some (.bool rv) := BC3.out.cell 6
      have qr0 : W3.cell? ⟨w.heap.size + 1, 0, none⟩ = some (.bool b1) := BR3.out.cell 0
      have qr1 : W3.cell? ⟨w.heap.size + 1, 1, none⟩ = some (.slice A1 n1 c1) := BR3.out.cell 1
      have qr2 : W3.cell? ⟨w.heap.size + 1, 2, none⟩ = some (.bool b2) := BR3.out.cell 2
      have qr3 : W3.cell? ⟨w.heap.size + 1, 3, none⟩ = some (.slice A2 n2 c2) := BR3.out.cell 3
      go_wp2_with fail
      refine (HCK.out HF2.out W3 HB3.out).mono ?_
      rintro e W4 ⟨r2, rfl, hr2, hb⟩
      have BC4 := Lib.hid (BC3.out.below hb BC3.out.lt)
      have BR4 := Lib.hid (BR3.out.below hb BR3.out.lt)
      have HB4 := Lib.hid (HB3.out.trans (hb.mono HB3.out.size))
      clear hb BC3 BR3 HB3 qc0 qc1 qc2 qc3 qc4 qc5 qc6 qr0 qr1 qr2 qr3
      rcases hr2 with ⟨rfl, hok⟩ | ⟨rfl, hok⟩
      rotate_left
      · skip
        clear hok
        go_wp2_with fail
        go_ret
        exact ⟨rfl, HB4.out⟩
      obtain rfl : b2 = false := hok.2.2.2.1
      have HOK := Lib.hid hok
      clear hok
      have qc0 : W4.cell? ⟨w.heap.size, 0, none⟩ = some (.string xs) := BC4.out.cell 0
      have qc1 : W4.cell? ⟨w.heap.size, 1, none⟩ = some (.int .i64 lo) := BC4.out.cell 1
      have qc2 : W4.cell? ⟨w.heap.size, 2, none⟩ = some (.int .i64 hi) := BC4.out.cell 2
      have qc3 : W4.cell? ⟨w.heap.size, 3, none⟩ = some (.int .i64 st) := BC4.out.cell 3
      have qc4 : W4.cell? ⟨w.heap.size, 4, none⟩ = some (.int .i64 ho) := BC4.out.cell 4
      have qc5 : W4.cell? ⟨w.heap.size, 5, none⟩ = some (.int .i64 tr) := BC4.out.cell 5
      have qc6 : W4.cell? ⟨w.heap.size, 6, none⟩ = some (.bool rv) := BC4.out.cell 6
      have qr0 : W4.cell? ⟨w.heap.size + 1, 0, none⟩ = some (.bool b1) := BR4.out.cell 0
      have qr1 : W4.cell? ⟨w.heap.size + 1, 1, none⟩ = some (.slice A1 n1 c1) := BR4.out.cell 1
      have qr2 : W4.cell? ⟨w.heap.size + 1, 2, none⟩ = some (.bool false) := BR4.out.cell 2
      have qr3 : W4.cell? ⟨w.heap.size + 1, 3, none⟩ = some (.slice A2 n2 c2) := BR4.out.cell 3
      go_wp2_with fail
      refine (HLI.out HF2.out HOK.out W4 HB4.out).mono ?_
      rintro e W5 ⟨rfl, hb⟩
      have BC5 := Lib.hid (BC4.out.below hb BC4.out.lt)
      have BR5 := Lib.hid (BR4.out.below hb BR4.out.lt)
      have HB5 := Lib.hid (HB4.out.trans (hb.mono HB4.out.size))
      clear hb BC4 BR4 HB4 qc0 qc1 qc2 qc3 qc4 qc5 qc6 qr0 qr1 qr2 qr3
      obtain ⟨lb, hlb⟩ : ∃ b, b = limB b1 p q := ⟨_, rfl⟩
      rw [← hlb]
      have HLB := Lib.hid hlb
      clear hlb
      cases lb with
      | false =>
        go_wp2_with fail
        go_ret
        exact ⟨rfl, HB5.out⟩
      | true =>
        have hnd2 : 2 ≤ nd := by have := H2.out; omega
        have hnd5 : nd ≤ 5 := by have := H5.out; omega
        obtain ⟨bd, od, rfl, hbd, hcd⟩ := (HD.out.below HB5.out).top.at_ (k := 0) (by omega)
        obtain ⟨ju, hj⟩ : ∃ y, y = NfD 0 := ⟨_, rfl⟩
        obtain ⟨A0, hA0⟩ : ∃ y, y = AfD 0 := ⟨_, rfl⟩
        obtain ⟨c0, hc0⟩ : ∃ y, y = CfD 0 := ⟨_, rfl⟩
        have hjm := HJU.out 0 (by omega)
        rw [← hj, ← hA0, ← hc0, Nat.add_zero] at hcd
        rw [← hj] at hjm
        have HJ := Lib.hid hj
        clear hA0 hc0 hj
        obtain ⟨n, hn⟩ : ∃ n, n = nd * ju := ⟨_, rfl⟩
        have hnr : n ≤ 87960930222080 := by rw [hn]; exact Nat.le_trans (Nat.mul_le_mul hnd5 hjm) (by omega)
        have HWN := Lib.hid (show wrap64 ((nd : Int) * (ju : Int)) = (n : Int) by rw [show (nd : Int) * (ju : Int) = (n : Int) by rw [hn]; exact (Int.natCast_mul _ _).symm]; exact wrap_in _ (by omega))
        have HN := Lib.hid hn
        clear hn
        have qc0 : W5.cell? ⟨w.heap.size, 0, none⟩ = some (.string xs) := BC5.out.cell 0
        have qc1 : W5.cell? ⟨w.heap.size, 1, none⟩ = some (.int .i64 lo) := BC5.out.cell 1
        have qc2 : W5.cell? ⟨w.heap.size, 2, none⟩ = some (.int .i64 hi) := BC5.out.cell 2
        have qc3 : W5.cell? ⟨w.heap.size, 3, none⟩ = some (.int .i64 st) := BC5.out.cell 3
        have qc4 : W5.cell? ⟨w.heap.size, 4, none⟩ = some (.int .i64 ho) := BC5.out.cell 4
        have qc5 : W5.cell? ⟨w.heap.size, 5, none⟩ = some (.int .i64 tr) := BC5.out.cell 5
        have qc6 : W5.cell? ⟨w.heap.size, 6, none⟩ = some (.bool rv) := BC5.out.cell 6
        by_cases hc : n < 1
        · skip
          have t4 : decide ((n : Int) < 1) = true := decide_eq_true (by omega)
          have t4n : decide (n < 1) = true := decide_eq_true hc
          clear hc
          have hwn := HWN.out
          go_wp2_with fail
          go_ret
          exact ⟨rfl, HB5.out⟩
        have t4 : decide ((n : Int) < 1) = false := decide_eq_false (by omega)
        have t4n : decide (n < 1) = false := decide_eq_false hc
        have t4m : (n == 0) = false := beq_eq_false_iff_ne.2 (by omega)
        have H1 := Lib.hid hc
        clear hc
        by_cases hc : 5 < n
        · skip
          have t5 : decide ((5 : Int) < (n : Int)) = true := decide_eq_true (by omega)
          have t5n : decide (5 < n) = true := decide_eq_true hc
          clear hc
          have hwn := HWN.out
          go_wp2_with fail
          go_ret
          exact ⟨rfl, HB5.out⟩
        have t5 : decide ((5 : Int) < (n : Int)) = false := decide_eq_false (by omega)
        have t5n : decide (5 < n) = false := decide_eq_false hc
        have H6 := Lib.hid hc
        clear hc
        have hj5 : ju ≤ 5 := by
          have h1 := H6.out
          have h3 : 2 * ju ≤ n := by rw [HN.out]; exact Nat.mul_le_mul_right _ hnd2
          omega
        have hwn := HWN.out
        go_wp2_with fail
        refine (HT57.out HCR.out (some ⟨bd, od, none⟩) nd cd AfD NfD CfD MfD nd ju hnd5 hj5 W5 ((HD.out.below HB5.out).more HB5.out.size)).mono ?_
        rintro e W6 ⟨r3, rfl, hr3, hb⟩
        have BC6 := Lib.hid (BC5.out.below hb BC5.out.lt)
        have BR6 := Lib.hid (BR5.out.below hb BR5.out.lt)
        have HB6 := Lib.hid (HB5.out.trans (hb.mono HB5.out.size))
        clear hb BC5 BR5 HB5 qc0 qc1 qc2 qc3 qc4 qc5 qc6
        cases r3 with
        | false =>
          clear hr3
          go_wp2_with fail
          go_ret
          exact ⟨rfl, HB6.out⟩
        | true =>
          have HTD := Lib.hid (hr3.1 rfl)
          clear hr3
          have qc0 : W6.cell? ⟨w.heap.size, 0, none⟩ = some (.string xs) := BC6.out.cell 0
          have qc1 : W6.cell? ⟨w.heap.size, 1, none⟩ = some (.int .i64 lo) := BC6.out.cell 1
          have qc2 : W6.cell? ⟨w.heap.size, 2, none⟩ = some (.int .i64 hi) := BC6.out.cell 2
          have qc3 : W6.cell? ⟨w.heap.size, 3, none⟩ = some (.int .i64 st) := BC6.out.cell 3
          have qc4 : W6.cell? ⟨w.heap.size, 4, none⟩ = some (.int .i64 ho) := BC6.out.cell 4
          have qc5 : W6.cell? ⟨w.heap.size, 5, none⟩ = some (.int .i64 tr) := BC6.out.cell 5
          have qc6 : W6.cell? ⟨w.heap.size, 6, none⟩ = some (.bool rv) := BC6.out.cell 6
          go_wp2_with fail
          refine (HT57.out HCR.out Ap np cp AfP NfP CfP MfP nd ju hnd5 hj5 W6 ((HP.out.below HB6.out).more HB6.out.size)).mono ?_
          rintro e W7 ⟨r4, rfl, hr4, hb⟩
          have BC7 := Lib.hid (BC6.out.below hb BC6.out.lt)
          have BR7 := Lib.hid (BR6.out.below hb BR6.out.lt)
          have HB7 := Lib.hid (HB6.out.trans (hb.mono HB6.out.size))
          clear hb BC6 BR6 HB6 qc0 qc1 qc2 qc3 qc4 qc5 qc6
          cases r4 with
          | false =>
            clear hr4
            go_wp2_with fail
            go_ret
            exact ⟨rfl, HB7.out⟩
          | true =>
            have e1 : Int.tdiv (hi - lo) st ≤ 40 := by rw [f5]; exact H40.out
            have e2 : 1 ≤ nd * NfD 0 := by rw [← HJ.out, ← HN.out]; exact Nat.not_lt.1 H1.out
            have e3 : nd * NfD 0 ≤ 5 := by rw [← HJ.out, ← HN.out]; exact Nat.not_lt.1 H6.out
            have e4 : TabOk lo hi st nd NfD MfD nd (NfD 0) := by rw [← HJ.out]; exact HTD.out
            have e5 : TabOk lo hi st np NfP MfP nd (NfD 0) := by rw [← HJ.out]; exact hr4.1 rfl
            exact absurd (show TopOk ⟨xs, lo, hi, st, ho, tr, rv⟩ nd np NfD NfP MfD MfP b1 n1 p false n2 q from ⟨HCR.out, e1, hnd2, hnd5, HF2.out, HOK.out, HLB.out.symm, e2, e3, e4, e5⟩) HG.out
end Go.Proofs.YtkkcbkfpaoldmaaGreatDoor

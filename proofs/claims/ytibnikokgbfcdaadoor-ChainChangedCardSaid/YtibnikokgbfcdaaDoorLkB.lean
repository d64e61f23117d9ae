/- A link built of its parts; a slice of one link. -/
import Derived.Test.YtibnikokgbfcdaaDoorC8
import Derived.Great.BuildSlice
namespace Go.Proofs.YtibnikokgbfcdaaDoor
open Go Go.RowKit
theorem cons_of {l : List UInt8} {n : Nat} (h : l.length = n + 1) : ∃ a t, l = a :: t ∧ t.length = n := by
  cases l with
  | nil => simp at h
  | cons a t => exact ⟨a, t, rfl, by simpa using h⟩
theorem list32 {l : List UInt8} (h : l.length = 32) : ∃ a0 a1 a2 a3 a4 a5 a6 a7 a8 a9 a10 a11 a12 a13 a14 a15 a16 a17 a18 a19 a20 a21 a22 a23 a24 a25 a26 a27 a28 a29 a30 a31, l = [a0, a1, a2, a3, a4, a5, a6, a7, a8, a9, a10, a11, a12, a13, a14, a15, a16, a17, a18, a19, a20, a21, a22, a23, a24, a25, a26, a27, a28, a29, a30, a31] := by
  obtain ⟨a0, l1, rfl, h1⟩ := cons_of h
  obtain ⟨a1, l2, rfl, h2⟩ := cons_of h1
  obtain ⟨a2, l3, rfl, h3⟩ := cons_of h2
  obtain ⟨a3, l4, rfl, h4⟩ := cons_of h3
  obtain ⟨a4, l5, rfl, h5⟩ := cons_of h4
  obtain ⟨a5, l6, rfl, h6⟩ := cons_of h5
  obtain ⟨a6, l7, rfl, h7⟩ := cons_of h6
  obtain ⟨a7, l8, rfl, h8⟩ := cons_of h7
  obtain ⟨a8, l9, rfl, h9⟩ := cons_of h8
  obtain ⟨a9, l10, rfl, h10⟩ := cons_of h9
  obtain ⟨a10, l11, rfl, h11⟩ := cons_of h10
  obtain ⟨a11, l12, rfl, h12⟩ := cons_of h11
  obtain ⟨a12, l13, rfl, h13⟩ := cons_of h12
  obtain ⟨a13, l14, rfl, h14⟩ := cons_of h13
  obtain ⟨a14, l15, rfl, h15⟩ := cons_of h14
  obtain ⟨a15, l16, rfl, h16⟩ := cons_of h15
  obtain ⟨a16, l17, rfl, h17⟩ := cons_of h16
  obtain ⟨a17, l18, rfl, h18⟩ := cons_of h17
  obtain ⟨a18, l19, rfl, h19⟩ := cons_of h18
  obtain ⟨a19, l20, rfl, h20⟩ := cons_of h19
  obtain ⟨a20, l21, rfl, h21⟩ := cons_of h20
  obtain ⟨a21, l22, rfl, h22⟩ := cons_of h21
  obtain ⟨a22, l23, rfl, h23⟩ := cons_of h22
  obtain ⟨a23, l24, rfl, h24⟩ := cons_of h23
  obtain ⟨a24, l25, rfl, h25⟩ := cons_of h24
  obtain ⟨a25, l26, rfl, h26⟩ := cons_of h25
  obtain ⟨a26, l27, rfl, h27⟩ := cons_of h26
  obtain ⟨a27, l28, rfl, h28⟩ := cons_of h27
  obtain ⟨a28, l29, rfl, h29⟩ := cons_of h28
  obtain ⟨a29, l30, rfl, h30⟩ := cons_of h29
  obtain ⟨a30, l31, rfl, h31⟩ := cons_of h30
  obtain ⟨a31, l32, rfl, h32⟩ := cons_of h31
  obtain rfl := List.eq_nil_of_length_eq_zero h32
  exact ⟨a0, a1, a2, a3, a4, a5, a6, a7, a8, a9, a10, a11, a12, a13, a14, a15, a16, a17, a18, a19, a20, a21, a22, a23, a24, a25, a26, a27, a28, a29, a30, a31, rfl⟩
theorem built_link32 (nd no : Int) (a0 a1 a2 a3 a4 a5 a6 a7 a8 a9 a10 a11 a12 a13 a14 a15 a16 a17 a18 a19 a20 a21 a22 a23 a24 a25 a26 a27 a28 a29 a30 a31 : UInt8) (A : Option Addr) (n c : Nat) (dat : List UInt8) : Tryd.prog.built 52 [(0, .int .i64 nd), (1, .int .i64 no), (2, .agg (dig [a0, a1, a2, a3, a4, a5, a6, a7, a8, a9, a10, a11, a12, a13, a14, a15, a16, a17, a18, a19, a20, a21, a22, a23, a24, a25, a26, a27, a28, a29, a30, a31])), (3, .slice A n c)] = some ((⟨nd, no, [a0, a1, a2, a3, a4, a5, a6, a7, a8, a9, a10, a11, a12, a13, a14, a15, a16, a17, a18, a19, a20, a21, a22, a23, a24, a25, a26, a27, a28, a29, a30, a31], dat⟩ : Lk).cells (.slice A n c)).toArray := by kernel_rfl
theorem bslice_link32 (nd no : Int) (a0 a1 a2 a3 a4 a5 a6 a7 a8 a9 a10 a11 a12 a13 a14 a15 a16 a17 a18 a19 a20 a21 a22 a23 a24 a25 a26 a27 a28 a29 a30 a31 : UInt8) (A : Option Addr) (n c : Nat) (dat : List UInt8) (W : World) : (Instr.buildSlice 43 1 #[(0, .agg ((⟨nd, no, [a0, a1, a2, a3, a4, a5, a6, a7, a8, a9, a10, a11, a12, a13, a14, a15, a16, a17, a18, a19, a20, a21, a22, a23, a24, a25, a26, a27, a28, a29, a30, a31], dat⟩ : Lk).cells (.slice A n c)).toArray)]).run Tryd.prog W = .ok (.slice (some ⟨W.heap.size, 0, none⟩) 1 1) (W.alloc (.cells ((⟨nd, no, [a0, a1, a2, a3, a4, a5, a6, a7, a8, a9, a10, a11, a12, a13, a14, a15, a16, a17, a18, a19, a20, a21, a22, a23, a24, a25, a26, a27, a28, a29, a30, a31], dat⟩ : Lk).cells (.slice A n c)).toArray 52)) := by kernel_rfl
theorem built_link (nd no : Int) (H : List UInt8) (hH : H.length = 32) (A : Option Addr) (n c : Nat) (dat : List UInt8) : Tryd.prog.built 52 [(0, .int .i64 nd), (1, .int .i64 no), (2, .agg (dig H)), (3, .slice A n c)] = some ((⟨nd, no, H, dat⟩ : Lk).cells (.slice A n c)).toArray := by
  obtain ⟨a0, a1, a2, a3, a4, a5, a6, a7, a8, a9, a10, a11, a12, a13, a14, a15, a16, a17, a18, a19, a20, a21, a22, a23, a24, a25, a26, a27, a28, a29, a30, a31, rfl⟩ := list32 hH
  exact built_link32 ..
theorem bslice_link (x : Lk) (hp : x.prev.length = 32) (A : Option Addr) (n c : Nat) (W : World) : (Instr.buildSlice 43 1 #[(0, .agg (x.cells (.slice A n c)).toArray)]).run Tryd.prog W = .ok (.slice (some ⟨W.heap.size, 0, none⟩) 1 1) (W.alloc (.cells (x.cells (.slice A n c)).toArray 52)) := by
  obtain ⟨nd, no, pv, dat⟩ := x
  obtain ⟨a0, a1, a2, a3, a4, a5, a6, a7, a8, a9, a10, a11, a12, a13, a14, a15, a16, a17, a18, a19, a20, a21, a22, a23, a24, a25, a26, a27, a28, a29, a30, a31, rfl⟩ := list32 hp
  exact bslice_link32 ..
theorem build_link {ops : Array Oper} {rest : List Oper} {o : Oper} {a : Act} {w : World} {Q : Exit → Act → World → Prop} (hgd : o.guard = none) (p0 p1 p2 p3 : Operand) (ho : o.op = .build 52 #[(0, p0), (1, p1), (2, p2), (3, p3)])
    (x : Lk) (A : Option Addr) (n c : Nat) (hp : x.prev.length = 32) (h0 : a.eval p0 = .int .i64 x.node) (h1 : a.eval p1 = .int .i64 x.no) (h2 : a.eval p2 = .agg (dig x.prev)) (h3 : a.eval p3 = .slice A n c)
    (h : wpList Tryd.prog ops Q rest (a.put o.dst (.agg (x.cells (.slice A n c)).toArray)) w) : wpList Tryd.prog ops Q (o :: rest) a w := by
  have hb := built_link x.node x.no x.prev hp A n c x.data
  refine wpList_buildTo hgd 52 _ ho o.dst rfl _ ?_ h
  simp only [List.map_toArray, List.map_cons, List.map_nil, h0, h1, h2, h3]
  exact hb
/-- A slice of one link, at one operation. -/
theorem wp_bslice_link {o : Oper} {a : Act} {w : World} {Q : Exit → Act → World → Prop} {K : Act → World → Prop} (p : Operand) (ho : o.op = .buildSlice 43 1 #[(0, p)])
    (x : Lk) (A : Option Addr) (n c : Nat) (hp : x.prev.length = 32) (hx : a.eval p = .agg (x.cells (.slice A n c)).toArray)
    (h : K (a.put o.dst (.slice (some ⟨w.heap.size, 0, none⟩) 1 1)) (w.alloc (.cells (x.cells (.slice A n c)).toArray 52))) : Oper.wp Tryd.prog o a w K Q := by
  unfold Oper.wp execOp
  simp only [ho, List.map_toArray, List.map_cons, List.map_nil, hx, bslice_link x hp A n c w, Sem.run_bind, Sem.run_pure, Result.andThen_ok]
  exact h
/-- An append of one link onto links in a full slice, at one operation. -/
theorem wp_append_links {o : Oper} {a : Act} {w : World} {Q : Exit → Act → World → Prop} {K : Act → World → Prop} (s x : Operand) (ho : o.op = .call { callee := .builtin .append, args := #[s, x], argTypes := #[43, 43] })
    {A : Option Addr} {l : List Lk} (n : Nat) (hs : a.eval s = .slice A n n) (hn : n = l.length) (hA : LRd w w.heap.size A l) (hnone : A = none → n = 0 ∧ n = 0) {g : Nat} (hx : a.eval x = .slice (some ⟨g, 0, none⟩) 1 1)
    (y : Lk) {D : Option Addr} {m c : Nat} (hg : Blk w g 52 (y.cells (.slice D m c)).toArray) (hy : Leads w w.heap.size (y, .slice D m c)) (hn10 : n ≤ 100000)
    (h : ∀ B c' w', n + 1 ≤ c' → c' ≤ 9223372036854775807 → LRd w' w'.heap.size B (l ++ [y]) → Below w.heap.size w w' → K (a.put o.dst (.slice B (n + 1) c')) w') : Oper.wp Tryd.prog o a w K Q := by
  obtain ⟨ps, hps, hld, hcl⟩ := hA.cells
  have hps2 : ps.length = n := by rw [hn, ← hps, List.length_map]
  have hp32 : Prev32 ps := fun p hp => (hld p hp).1
  obtain ⟨li, lz, hl1, hl2, hl3, hl4, hl5⟩ := linkI_all
  have key : ∀ v7 w7, World.ownsRow w7 w.heap.size 52 35 v7 (n + 1) (lcells ps ++ y.cells (.slice D m c)) → w.grownBy w7 none → K (a.put o.dst v7) w7 := fun v7 w7 hown7 hg7 => by
    obtain ⟨B7, c7, rfl, hc7, hc7', hl7⟩ := add_links hps hld hy hn hown7 hg7
    exact h B7 c7 w7 hc7 hc7' hl7 ⟨hg7.os, hg7.tape, hg7.output, hg7.size, fun i hi => hg7.block i hi (by simp)⟩
  have hcy := y.cells_len (.slice D m c) hy.1
  have hnew : ∀ (j : Nat) u, (y.cells (.slice D m c))[j]? = some u → w.cell? ((⟨g, 0, none⟩ : Addr).add j) = some u := fun j u hu => by
    rw [Addr.add_mid, Nat.zero_add, hg.cell, List.getElem?_toArray]
    exact hu
  cases A with
  | some b =>
    obtain ⟨v', w', hrun, r1, r2⟩ := run_append_arg_grows (P := Tryd.prog) w 43 o.type 52 li lz 35 72 Tryd.underlying43 hl1 hl2 hl3 hl4 hl5 (by decide) b n n (lcells ps) (by rw [lcells_len ps hp32, hps2]) (hcl b rfl) ⟨g, 0, none⟩ 1 1 (y.cells (.slice D m c)) (by rw [hcy]) hnew (by omega) (by simp only [maxLen]; omega) (by omega)
    unfold Oper.wp
    simp [execOp, ho, resolve, invoke, builtin, hs, hx, hrun, Result.andThen]
    exact key v' w' r1 r2
  | none =>
    obtain ⟨rfl, -⟩ := hnone rfl
    obtain rfl : ps = [] := List.eq_nil_of_length_eq_zero hps2
    obtain ⟨v', w', hrun, r1, r2, _⟩ := run_append_own (P := Tryd.prog) w w.heap.size 43 o.type 52 li lz 35 72 Tryd.underlying43 hl1 hl2 hl3 hl4 hl5 (by decide) (.slice none 0 0) 0 [] (World.ownsRow_nil w _ _ _) ⟨g, 0, none⟩ 1 1 (y.cells (.slice D m c)) (by rw [hcy]) hnew hy.one (by simp only [maxLen]; omega) (by omega) (Nat.le_refl _)
    unfold Oper.wp
    simp [execOp, ho, resolve, invoke, builtin, hs, hx, hrun, Result.andThen]
    exact key v' w' r1 r2
end Go.Proofs.YtibnikokgbfcdaaDoor

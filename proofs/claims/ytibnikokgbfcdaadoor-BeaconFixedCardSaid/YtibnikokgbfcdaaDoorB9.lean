/- Walk: beacon.Value that refuses; whatever comes in. -/
import Derived.Test.YtibnikokgbfcdaaDoorB8
namespace Go.Proofs.YtibnikokgbfcdaaDoor
open Go Go.RowKit

set_option maxRecDepth 100000 in
theorem built_dig0 : Tryd.prog.built 23 [] = some (dig zdg) := by kernel_rfl
set_option maxRecDepth 100000 in
theorem build_dig0 {ops : Array Oper} {rest : List Oper} {o : Oper} {a : Act} {Q : Exit → Act → World → Prop} (hgd : o.guard = none) (ho : o.op = .build 23 #[]) {w : World} (h : wpList Tryd.prog ops Q rest (a.put o.dst (.agg (dig zdg))) w) : wpList Tryd.prog ops Q (o :: rest) a w := by
  refine wpList_buildTo hgd 23 _ ho o.dst rfl _ ?_ h
  simp only [List.map_toArray, List.map_nil]
  exact built_dig0
set_option maxRecDepth 100000 in
set_option linter.unusedSimpArgs false in
set_option linter.unusedVariables false in
set_option maxHeartbeats 4000000 in
theorem bValue_bad1 (A B : Option Addr) (l r : List Pd) (n c k c2 : Nat) (hn : n = l.length) (hn24 : n ≤ 9223372036854775807) (hk : k = r.length) (hk2 : k ≤ 9223372036854775807) (hil : PdInts l) (hir : PdInts r) (w : World) (hL : Laid w) (hA : PRd w w.heap.size A l) (hB : PRd w w.heap.size B r)
    (hf : ¬ inForm l) : Calls Tryd.prog 51 #[.slice A n c, .slice B k c2] w (Ret (.tuple #[.agg (dig zdg), .slice none 0 0, .int .i64 310]) w) := by
  have HL := Lib.hid hL
  have HA := Lib.hid hA
  have HB := Lib.hid hB
  have HN := Lib.hid hn
  have HK := Lib.hid hk
  have HF := Lib.hid hf
  have HIL := Lib.hid hil
  have HIR := Lib.hid hir
  clear hL hA hB hn hk hf hil hir
  go_enter Tryd.func51, Tryd.ntmps51
  have hmm := fun W => run_makeMap (P := Tryd.prog) 114 W
  go_wp2_with fail
  refine calls_gen (fun W0 => Blk W0 w.heap.size 58 #[.slice A n c] ∧ Blk W0 (w.heap.size + 1) 59 #[.slice B k c2] ∧ Blk W0 (w.heap.size + 2) 23 (dig zdg) ∧ MapR W0 (w.heap.size + 3) 0 (fun _ => none) ∧ Blk W0 (w.heap.size + 4) 114 #[.map (some (w.heap.size + 3))] ∧ Below w.heap.size w W0 ∧ W0.heap.size = w.heap.size + 5)
    ⟨((((Blk.new w _ _).alloc _).alloc _).alloc _).alloc _, (((Blk.new' _ _ _ (by simp)).alloc _).alloc _).alloc _, ((Blk.new' _ _ _ (by simp)).alloc _).alloc _, (MapR.made' _ (by simp)).alloc _, Blk.new' _ _ _ (by simp), (((((Below.refl _ w).alloc (Nat.le_refl _) _).alloc (by simp) _).alloc (by simp; omega) _).alloc (by simp; omega) _).alloc (by simp; omega) _, by simp⟩ (fun W0 ⟨c0, c1, c2', c3, c4, hb0, hz⟩ => ?_)
  refine (rise_pledges A l n c HN.out (by omega) w.heap.size 58 W0 c0 ((HA.out.below hb0).more hb0.size)).mono ?_
  rintro e w1 ⟨rfl, hb1⟩
  rw [formB_false.2 HF.out]
  have DZ := c2'.below hb1 c2'.lt
  have BB := hb0.trans (hb1.mono hb0.size)
  clear c0 c1 c2' c3 c4 hb0 hb1 hz
  go_wp2_with (first
    | (refine wpList_skip (by rfl) ?_)
    | (refine build_dig0 rfl rfl ?_)
    | (refine store_dig rfl _ _ rfl DZ zdg rfl rfl rfl rfl ?_; intro w8 hD8 hO8 hz8))
  refine bodyPost_ret (results_row_tmp2 rfl _ _ (w.heap.size + 2) 23 _ (0, 0) _ (.slice none 0 0) (.int .i64 310) rfl rfl rfl hD8 Tryd.underlying23 rfl (dig_info _ rfl)) rfl ?_
  exact ⟨rfl, BB.trans (hO8.toBelow BB.size (by omega))⟩
set_option maxRecDepth 100000 in
set_option linter.unusedSimpArgs false in
set_option linter.unusedVariables false in
set_option maxHeartbeats 4000000 in
theorem bValue_bad2 (A B : Option Addr) (l r : List Pd) (n c k c2 : Nat) (hn : n = l.length) (hn24 : n ≤ 9223372036854775807) (hk : k = r.length) (hk2 : k ≤ 9223372036854775807) (hil : PdInts l) (hir : PdInts r) (w : World) (hL : Laid w) (hA : PRd w w.heap.size A l) (hB : PRd w w.heap.size B r)
    (hf : inForm l ∧ ¬ inForm r) : Calls Tryd.prog 51 #[.slice A n c, .slice B k c2] w (Ret (.tuple #[.agg (dig zdg), .slice none 0 0, .int .i64 310]) w) := by
  have HL := Lib.hid hL
  have HA := Lib.hid hA
  have HB := Lib.hid hB
  have HN := Lib.hid hn
  have HK := Lib.hid hk
  have HF := Lib.hid hf
  have HIL := Lib.hid hil
  have HIR := Lib.hid hir
  clear hL hA hB hn hk hf hil hir
  go_enter Tryd.func51, Tryd.ntmps51
  have hmm := fun W => run_makeMap (P := Tryd.prog) 114 W
  go_wp2_with fail
  refine calls_gen (fun W0 => Blk W0 w.heap.size 58 #[.slice A n c] ∧ Blk W0 (w.heap.size + 1) 59 #[.slice B k c2] ∧ Blk W0 (w.heap.size + 2) 23 (dig zdg) ∧ MapR W0 (w.heap.size + 3) 0 (fun _ => none) ∧ Blk W0 (w.heap.size + 4) 114 #[.map (some (w.heap.size + 3))] ∧ Below w.heap.size w W0 ∧ W0.heap.size = w.heap.size + 5)
    ⟨((((Blk.new w _ _).alloc _).alloc _).alloc _).alloc _, (((Blk.new' _ _ _ (by simp)).alloc _).alloc _).alloc _, ((Blk.new' _ _ _ (by simp)).alloc _).alloc _, (MapR.made' _ (by simp)).alloc _, Blk.new' _ _ _ (by simp), (((((Below.refl _ w).alloc (Nat.le_refl _) _).alloc (by simp) _).alloc (by simp; omega) _).alloc (by simp; omega) _).alloc (by simp; omega) _, by simp⟩ (fun W0 ⟨c0, c1, c2', c3, c4, hb0, hz⟩ => ?_)
  refine (rise_pledges A l n c HN.out (by omega) w.heap.size 58 W0 c0 ((HA.out.below hb0).more hb0.size)).mono ?_
  rintro e w1 ⟨rfl, hb1⟩
  rw [formB_true.2 HF.out.1]
  have d0 := c0.below hb1 c0.lt
  have d1 := c1.below hb1 c1.lt
  have d2 := c2'.below hb1 c2'.lt
  have d3 := c3.below hb1 c3.lt
  have d4 := c4.below hb1 c4.lt
  have hB1 := hb0.trans (hb1.mono hb0.size)
  have hz1 := hb1.size
  clear c0 c1 c2' c3 c4 hb0 hb1
  go_wp2_with fail
  refine (rise_reveals B r HIR.out k c2 HK.out (w.heap.size + 1) (w.heap.size + 4) (w.heap.size + 3) 59 114 w1 (by omega) (by omega) d1 d4 (fun h p e => by
    obtain ⟨b, off, e2, hb, -⟩ := HB.out h
    rw [e] at e2
    cases e2
    show b ≠ w.heap.size + 3
    omega) ((HB.out.below hB1).more hB1.size) d3).mono ?_
  rintro e w2 ⟨rfl, hg2, hM2⟩
  rw [formB_false.2 HF.out.2]
  have ne3 : ∀ g, g ≠ w.heap.size + 3 → some g ≠ some (w.heap.size + 3) := fun g h e => h (Option.some.inj e)
  have e0 := d0.grown hg2 (ne3 _ (by omega))
  have e1 := d1.grown hg2 (ne3 _ (by omega))
  have e2 := d2.grown hg2 (ne3 _ (by omega))
  have e4 := d4.grown hg2 (ne3 _ (by omega))
  have hB2 : Below w.heap.size w w2 := ⟨hg2.os.trans hB1.os, hg2.tape.trans hB1.tape, hg2.output.trans hB1.output, Nat.le_trans hB1.size hg2.size, fun i hi => (hg2.block i (Nat.lt_of_lt_of_le hi hB1.size) (ne3 _ (by omega))).trans (hB1.block i hi)⟩
  have hz2 : w.heap.size + 5 ≤ w2.heap.size := by have := hg2.size; omega
  have DZ := e2
  have BB := hB2
  clear e0 e1 e2 e4 hB2 d0 d1 d2 d3 d4 hB1 hz1 hz hg2 hM2
  go_wp2_with (first
    | (refine wpList_skip (by rfl) ?_)
    | (refine build_dig0 rfl rfl ?_)
    | (refine store_dig rfl _ _ rfl DZ zdg rfl rfl rfl rfl ?_; intro w8 hD8 hO8 hz8))
  refine bodyPost_ret (results_row_tmp2 rfl _ _ (w.heap.size + 2) 23 _ (0, 0) _ (.slice none 0 0) (.int .i64 310) rfl rfl rfl hD8 Tryd.underlying23 rfl (dig_info _ rfl)) rfl ?_
  exact ⟨rfl, BB.trans (hO8.toBelow BB.size (by omega))⟩
/-- What beacon.Value returns. -/
def ValAny (l r : List Pd) (w : World) (e : Ending) (w' : World) : Prop :=
  (inForm l ∧ inForm r ∧ ValPost l r w e w') ∨ (¬ (inForm l ∧ inForm r) ∧ Ret (.tuple #[.agg (dig zdg), .slice none 0 0, .int .i64 310]) w e w')
theorem bValue_any (A B : Option Addr) (l r : List Pd) (n c k c2 : Nat) (hn : n = l.length) (hn2 : n ≤ 9223372036854775807) (hk : k = r.length) (hk2 : k ≤ 9223372036854775807) (hil : PdInts l) (hir : PdInts r) (w : World) (hL : Laid w) (hA : PRd w w.heap.size A l) (hB : PRd w w.heap.size B r) :
    Calls Tryd.prog 51 #[.slice A n c, .slice B k c2] w (ValAny l r w) := by
  by_cases h1 : inForm l
  · by_cases h2 : inForm r
    · exact (bValue_good A B l r n c k c2 hn hk hk2 hil hir w hL hA hB h1 h2).mono fun _ _ h => .inl ⟨h1, h2, h⟩
    · exact (bValue_bad2 A B l r n c k c2 hn hn2 hk hk2 hil hir w hL hA hB ⟨h1, h2⟩).mono fun _ _ h => .inr ⟨fun h3 => h2 h3.2, h⟩
  · exact (bValue_bad1 A B l r n c k c2 hn hn2 hk hk2 hil hir w hL hA hB h1).mono fun _ _ h => .inr ⟨fun h3 => h1 h3.1, h⟩
end Go.Proofs.YtibnikokgbfcdaaDoor

/- Walks: codec.newWriter and its closures. -/
import Derived.Test.YtibnikokgbfcdaaDoorW7
import Derived.Laws.EntriesVeiled
import Derived.Deep.RegionHeld3
namespace Go.Proofs.YtibnikokgbfcdaaDoor
open Go.RowKit

/-- The table of the writers lies in block gt, the variable that holds its address in block gb. -/
structure Writer (w : World) (gb gt : Nat) : Prop where
  box : w.cell? ⟨gb, 0, none⟩ = some (.pointer (some ⟨gt, 0, none⟩))
  one : w.cell? ⟨gt, 1, none⟩ = some (.func (.func 122) #[] #[])
  two : w.cell? ⟨gt, 2, none⟩ = some (.func (.func 125) #[] #[])
  three : w.cell? ⟨gt, 3, none⟩ = some (.func (.func 126) #[] #[.pointer (some ⟨gb, 0, none⟩)])
theorem Writer.below {w w' : World} {gb gt B : Nat} (h : Writer w gb gt) (hb : Below B w w') (h1 : gb < B) (h2 : gt < B) : Writer w' gb gt :=
  ⟨(hb.cell (p := ⟨gb, 0, none⟩) h1).trans h.box, (hb.cell (p := ⟨gt, 1, none⟩) h2).trans h.one, (hb.cell (p := ⟨gt, 2, none⟩) h2).trans h.two, (hb.cell (p := ⟨gt, 3, none⟩) h2).trans h.three⟩

def NewWriterPost (w : World) (e : Ending) (w' : World) : Prop := ∃ gb gt, e = .returned (.pointer (some ⟨gt, 0, none⟩)) ∧ Writer w' gb gt ∧ gb < w'.heap.size ∧ gt < w'.heap.size ∧ Below w.heap.size w w'
set_option maxRecDepth 100000 in
set_option maxHeartbeats 1000000 in
theorem newWriter_any (w : World) : Calls Tryd.prog 107 #[] w (NewWriterPost w) := by
  go_enter Tryd.func107, Tryd.ntmps107
  go_wp2
  go_ret
  refine ⟨w.heap.size + 1, w.heap.size, rfl, ⟨?_, ?_, ?_, ?_⟩, by simp, by simp only [World.size_alloc]; omega, ((Below.refl _ w).alloc (Nat.le_refl _) _).alloc (by simp) _⟩
  all_goals go_simp

/-- The four cells of a value that is an integer. -/
def NwPost (base : Nat) (v : Value) (n : Nat) (xs : List Value) (l : List UInt8) (w : World) (e : Ending) (w' : World) : Prop := Onto base v n xs l w e w'
set_option maxRecDepth 100000 in
set_option maxHeartbeats 1000000 in
theorem nw1_any (base : Nat) (v : Value) (n : Nat) (xs : List Value) (k : Nat) (v0 v2 v3 : Value) (w : World) (hown : w.ownsRow base 5 1 v n xs) (hbase : base ≤ w.heap.size) (hk : k ≤ 4611686018427387000) (hn : n + 11 ≤ 140737488355328) :
    Calls Tryd.prog 122 #[v, .agg #[v0, .int .i64 k, v2, v3]] w (Onto base v n xs (intB k) w) := by
  go_enter Tryd.func122, Tryd.ntmps122
  go_wp2_with fail
  have hc : (w.alloc (.cells #[v0, .int .i64 k, v2, v3] 93)).cell? ⟨w.heap.size, 1, none⟩ = some (.int .i64 k) := (Blk.new w _ _).cell 1
  have hown1 := hown.alloc (.cells #[v0, .int .i64 k, v2, v3] 93)
  have hg1 : Grew w (w.alloc (.cells #[v0, .int .i64 k, v2, v3] 93)) v v := Grew.of_below ((Below.refl _ w).alloc (Nat.le_refl _) _) v
  have hb1 : base ≤ (w.alloc (.cells #[v0, .int .i64 k, v2, v3] 93)).heap.size := by simp; omega
  have hlt : w.heap.size < (w.alloc (.cells #[v0, .int .i64 k, v2, v3] 93)).heap.size := by simp
  generalize w.alloc (.cells #[v0, .int .i64 k, v2, v3] 93) = w1 at hc hown1 hg1 hb1 hlt ⊢
  have hvk : some w.heap.size ≠ v.ownBlock := fun e => by have := (hown.lt _ e.symm).2; omega
  go_region_held3 (fun w' => w'.cell? ⟨w.heap.size, 1, none⟩ = some (.int .i64 k)) (first | exact hc3 | exact hc2 | go_keep)
    ((first
      | (refine step_app rfl _ _ 39 rfl base _ v n xs (own_drew (hown1.alloc _)) rfl _ 1 [B8 1] (src_byte 1 1 rfl (Blk.new _ _ _)) rfl (by omega) (by simp; omega) ?_; intro v2 w2 hown2 hg2; have hc2 := hg2.1.cell (a := ⟨w.heap.size, 1, none⟩) (v := .int .i64 k) ((World.cell?_alloc_lt _ _ _ hlt).trans hc) hvk; have hb2 := hg2.1.size; have hv2k := hg2.ne (g := w.heap.size) (by simp; omega) hvk)
      | (go_at_call 124; refine (unsigned_any k _ (by omega)).mono ?_; rintro e w' ⟨rfl, rfl⟩)
      | (go_at_call 123; refine (numeral_any base v2 (n + 1) (xs ++ [B8 1]) (2 * k) _ hown2 (by simp at hb2; omega) (by omega) (by omega)).mono ?_; rintro e w3 ⟨v3, rfl, hown3, hg3⟩; have hc3 := hg3.1.cell (a := ⟨w.heap.size, 1, none⟩) hc2 hv2k)))
  go_wp2
  go_ret
  refine ⟨v3, rfl, ?_, hg1.trans (((Grew.of_below (((Below.refl _ w1).alloc (Nat.le_refl _) _).drew) v).trans hg2).trans hg3)⟩
  rw [intB, List.length_cons, Nat.add_comm _ 1, ← Nat.add_assoc, bcells_cons]
  simpa using hown3

set_option maxRecDepth 100000 in
set_option maxHeartbeats 1000000 in
theorem nw2_any (base : Nat) (v : Value) (n : Nat) (xs : List Value) (s : ByteArray) (v0 v1 vl : Value) (w : World) (hown : w.ownsRow base 5 1 v n xs) (hbase : base ≤ w.heap.size) (hn : n + s.size + 11 ≤ 140737488355328) :
    Calls Tryd.prog 125 #[v, .agg #[v0, v1, .string s, vl]] w (Onto base v n xs (textB s.data.toList) w) := by
  go_enter Tryd.func125, Tryd.ntmps125
  go_wp2_with fail
  have hc : (w.alloc (.cells #[v0, v1, .string s, vl] 93)).cell? ⟨w.heap.size, 2, none⟩ = some (.string s) := (Blk.new w _ _).cell 2
  have hown1 := hown.alloc (.cells #[v0, v1, .string s, vl] 93)
  have hg1 : Grew w (w.alloc (.cells #[v0, v1, .string s, vl] 93)) v v := Grew.of_below ((Below.refl _ w).alloc (Nat.le_refl _) _) v
  have hb1 : base ≤ (w.alloc (.cells #[v0, v1, .string s, vl] 93)).heap.size := by simp; omega
  have hlt : w.heap.size < (w.alloc (.cells #[v0, v1, .string s, vl] 93)).heap.size := by simp
  generalize w.alloc (.cells #[v0, v1, .string s, vl] 93) = w1 at hc hown1 hg1 hb1 hlt ⊢
  have hvk : some w.heap.size ≠ v.ownBlock := fun e => by have := (hown.lt _ e.symm).2; omega
  have hwr : IntKind.u64.wrap (s.size : Int) = s.size := by rw [IntKind.wrap_u64]; omega
  go_region_held3 (fun w' => w'.cell? ⟨w.heap.size, 2, none⟩ = some (.string s)) (first | exact hc4 | exact hc3 | exact hc2 | go_keep)
    ((first
      | (refine step_app rfl _ _ 39 rfl base _ v n xs (own_drew (hown1.alloc _)) rfl _ 1 [B8 2] (src_byte 2 2 rfl (Blk.new _ _ _)) rfl (by omega) (by simp; omega) ?_; intro v2 w2 hown2 hg2; have hc2 := hg2.1.cell (a := ⟨w.heap.size, 2, none⟩) (v := .string s) ((World.cell?_alloc_lt _ _ _ hlt).trans hc) hvk; have hb2 := hg2.1.size; have hv2k := hg2.ne (g := w.heap.size) (by simp; omega) hvk)
      | (go_at_call 123; refine (numeral_any base v2 (n + 1) (xs ++ [B8 2]) s.size _ hown2 (by simp at hb2; omega) (by omega) (by omega)).mono ?_; rintro e w3 ⟨v3, rfl, hown3, hg3⟩; have hc3 := hg3.1.cell (a := ⟨w.heap.size, 2, none⟩) hc2 hv2k; have hb3 := hg3.1.size; have hv3k := hg3.ne (g := w.heap.size) (by simp at hb2; omega) hv2k)
      | (refine step_app rfl _ _ 9 rfl base _ v3 _ _ hown3 rfl _ s.size _ (src_string _ s) rfl (by have := numB_len10 s.size (by omega); omega) (by simp at hb2; omega) ?_; intro v4 w4 hown4 hg4; have hc4 := hg4.1.cell (a := ⟨w.heap.size, 2, none⟩) hc3 hv3k)))
  clear hwr
  go_wp2
  go_ret
  refine ⟨v4, rfl, ?_, (hg1.trans (((Grew.of_below (((Below.refl _ w1).alloc (Nat.le_refl _) _).drew) v).trans hg2).trans hg3)).trans hg4⟩
  have e1 : (textB s.data.toList).length = 1 + (numB s.size).length + s.size := by
    rw [textB, List.length_cons, List.length_append]
    show (numB s.size).length + s.size + 1 = _
    omega
  have e2 : bcells (textB s.data.toList) = [B8 2] ++ bcells (numB s.size) ++ bcells s.data.toList := by
    rw [textB, bcells_cons, bcells_append]
    rfl
  rw [e1, e2, ← Nat.add_assoc, ← Nat.add_assoc]
  simpa using hown4
end Go.Proofs.YtibnikokgbfcdaaDoor

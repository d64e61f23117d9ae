/- Plain words on lists of numbers, and laws at single operations on slices of ints that a call owns. -/
import Derived.Test.YtibnikokgbfcdaaDoorVals
import Derived.Laws.OwnMore
import Derived.OneCell
namespace Go.Proofs.YtibnikokgbfcdaaDoor
open Go Go.RowKit

theorem iInfo_all : ∃ i, Tryd.prog.info? 3 = some i ∧ i.zero = some (.int .i64 0) ∧ i.size = 1 ∧ i.bytes = 8 := by
  have h : (Tryd.prog.info? 3).map (fun i => (i.zero, i.size, i.bytes)) = some (some (.int .i64 0), 1, 8) := by kernel_rfl
  obtain ⟨i, hi, h0, h1, h2⟩ := info_parts h
  exact ⟨i, hi, h0, h1, h2⟩
noncomputable def iInfo : TypeInfo := iInfo_all.choose
theorem iInfo_eq : Tryd.prog.info? 3 = some iInfo := iInfo_all.choose_spec.1
theorem iInfo_zero : iInfo.zero = some (.int .i64 0) := iInfo_all.choose_spec.2.1
theorem iInfo_size : iInfo.size = 1 := iInfo_all.choose_spec.2.2.1
theorem iInfo_bytes : iInfo.bytes = 8 := iInfo_all.choose_spec.2.2.2

def icells (l : List Int) : List Value := l.map (Value.int .i64)
theorem icells_len (l : List Int) : (icells l).length = l.length := by simp [icells]
theorem icells_append (a b : List Int) : icells (a ++ b) = icells a ++ icells b := by simp [icells]
theorem icells_get (l : List Int) (k : Nat) (h : k < l.length) : (icells l)[k]? = some (.int .i64 (l.getD k 0)) := by
  simp [icells, List.getD_eq_getElem?_getD, List.getElem?_eq_getElem h]
theorem icells_set (l : List Int) (k : Nat) (x : Int) : icells (l.set k x) = (icells l).set k (.int .i64 x) := by simp [icells, List.map_set]
/-- The row of the call's own that holds these numbers. -/
def IOwn (w : World) (base : Nat) (v : Value) (l : List Int) : Prop := w.ownsRow base 3 1 v l.length (icells l)
theorem IOwn.nil (w : World) (base : Nat) : IOwn w base (.slice none 0 0) [] := World.ownsRow_nil _ _ _ _
theorem IOwn.alloc {w : World} {base : Nat} {v : Value} {l : List Int} (h : IOwn w base v l) (o : Obj) : IOwn (w.alloc o) base v l := World.ownsRow.alloc h o
theorem IOwn.below {w w' : World} {base : Nat} {v : Value} {l : List Int} (h : IOwn w base v l) (hb : Below w.heap.size w w') : IOwn w' base v l :=
  World.ownsRow.kept h (row := none) ⟨hb.os, hb.tape, hb.output, hb.size, fun i hi _ => hb.block i hi⟩ (by cases v.ownBlock <;> simp)
theorem IOwn.shape {w : World} {base : Nat} {v : Value} {l : List Int} (h : IOwn w base v l) : ∃ A c, v = .slice A l.length c ∧ l.length ≤ c ∧ c ≤ 9223372036854775807 ∧ Rd w w.heap.size A l.length (fun k => .int .i64 (l.getD k 0)) := by
  rcases h.2 with ⟨rfl, h0⟩ | ⟨g, cap, cur, rfl, hbg, hg, hnc, hcm, hcs, htake⟩
  · exact ⟨none, 0, by rw [h0], by omega, by omega, by rw [h0]; exact Rd.zero⟩
  · refine ⟨_, cap, rfl, hnc, by simp only [maxLen] at hcm; omega, fun _ => ⟨g, 0, rfl, (Array.getElem?_eq_some_iff.1 hg).1, fun k hk => ?_⟩⟩
    rw [Nat.zero_add, World.ownsRow.cellAt h k (by omega)]
    exact icells_get l k hk

section
variable {ops : Array Oper} {rest : List Oper} {o : Oper} {a : Act} {Q : Exit → Act → World → Prop}
theorem src_int {W : World} {g : Nat} {t : TypeId} (y : Int) (h : Blk W g t #[.int .i64 y]) : Src Tryd.prog 1 32 (.slice (some ⟨g, 0, none⟩) 1 1) 1 [.int .i64 y] W := by
  have hR : Rd W W.heap.size (some ⟨g, 0, none⟩) (1 * 1) (fun _ => .int .i64 y) := Rd.of_blk h h.lt fun k hk => by
    rcases k with _ | k <;> first | rfl | omega
  exact src_rd (P := Tryd.prog) W (size := 1) (tx := 32) (n := 1) (c := 1) Tryd.underlying32 hR (by omega) (fun k _ => rfl)
theorem app_int (hgd : o.guard = none) (s x : Operand) (ho : o.op = .call { callee := .builtin .append, args := #[s, x], argTypes := #[32, 32] })
    (base : Nat) {w : World} (v : Value) (l : List Int) (hs : a.eval s = v) (hown : IOwn w base v l) (y : Int) {g : Nat} {t : TypeId} (hg : Blk w g t #[.int .i64 y])
    (hx : a.eval x = .slice (some ⟨g, 0, none⟩) 1 1) (h47 : l.length + 1 ≤ 1000000000000) (hbase : base ≤ w.heap.size)
    (h : ∀ v' w', IOwn w' base v' (l ++ [y]) → Grew w w' v v' → wpList Tryd.prog ops Q rest (a.put o.dst v') w') : wpList Tryd.prog ops Q (o :: rest) a w :=
  wpList_append_src w hgd s x 32 32 ho base 3 iInfo (.int .i64 0) 1 8 Tryd.underlying32 iInfo_eq iInfo_zero iInfo_size iInfo_bytes rfl v l.length (icells l) hs hown _ 1 [.int .i64 y] hx (src_int y hg)
    (by simp only [maxLen]; omega) (by omega) hbase fun v' w' h1 h2 => h v' w' (by
      show World.ownsRow w' base 3 1 v' (l ++ [y]).length (icells (l ++ [y]))
      rw [icells_append, List.length_append]; exact h1) h2
end

/-- The numbers from 0 on. -/
def iota (n : Nat) : List Int := (List.range n).map fun (i : Nat) => (i : Int)
theorem iota_succ (n : Nat) : iota (n + 1) = iota n ++ [(n : Int)] := by simp [iota, List.range_succ]
theorem iota_length (n : Nat) : (iota n).length = n := by simp [iota]
/-- Two places exchanged. -/
def swapL (l : List Int) (i k : Nat) : List Int := (l.set i (l.getD k 0)).set k (l.getD i 0)
theorem swapL_length (l : List Int) (i k : Nat) : (swapL l i k).length = l.length := by simp [swapL]
/-- The exchanges from place i down. -/
def shuf (ks : Nat → Nat) : Nat → List Int → List Int
  | 0, l => l
  | i + 1, l => shuf ks i (swapL l (i + 1) (ks (i + 1)))
theorem shuf_length (ks : Nat → Nat) : ∀ i l, (shuf ks i l).length = l.length
  | 0, _ => rfl
  | i + 1, l => by rw [shuf, shuf_length ks i, swapL_length]
theorem IOwn.swap {w : World} {base g c : Nat} {l : List Int} (h : IOwn w base (.slice (some ⟨g, 0, none⟩) l.length c) l) (i k : Nat) :
    IOwn ((w.setCell ⟨g, i, none⟩ (.int .i64 (l.getD k 0))).setCell ⟨g, k, none⟩ (.int .i64 (l.getD i 0))) base (.slice (some ⟨g, 0, none⟩) l.length c) (swapL l i k) ∧
    Grew w ((w.setCell ⟨g, i, none⟩ (.int .i64 (l.getD k 0))).setCell ⟨g, k, none⟩ (.int .i64 (l.getD i 0))) (.slice (some ⟨g, 0, none⟩) l.length c) (.slice (some ⟨g, 0, none⟩) l.length c) := by
  obtain ⟨h1, g1⟩ := World.ownsRow.stored h i (.int .i64 (l.getD k 0))
  obtain ⟨h2, g2⟩ := World.ownsRow.stored h1 k (.int .i64 (l.getD i 0))
  refine ⟨?_, Grew.trans (v' := .slice (some ⟨g, 0, none⟩) l.length c) ⟨g1, .inl rfl⟩ ⟨g2, .inl rfl⟩⟩
  show World.ownsRow _ base 3 1 _ (swapL l i k).length (icells (swapL l i k))
  rw [swapL_length, swapL, icells_set, icells_set]
  exact h2
end Go.Proofs.YtibnikokgbfcdaaDoor

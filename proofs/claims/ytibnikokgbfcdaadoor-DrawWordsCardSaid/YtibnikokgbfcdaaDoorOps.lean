/- Laws at single operations, for walks: conversions between strings and bytes, digests stored and loaded whole, equality of digests. -/
import Derived.Test.YtibnikokgbfcdaaDoorBytes
import Derived.Lib.ConvBytes
namespace Go.Proofs.YtibnikokgbfcdaaDoor
open Go Go.RowKit

section
variable {ops : Array Oper} {rest : List Oper} {o : Oper} {a : Act} {Q : Exit → Act → World → Prop}
/-- A value stored whole into the block that was made last. -/
theorem wpList_store_new {P : Program} (hgd : o.guard = none) (ty : TypeId) (x y : Operand) (ho : o.op = .store ty x y) (w : World) (c cells : Array Value) (t : TypeId)
    (hx : a.eval x = .pointer (some ⟨w.heap.size, 0, none⟩)) (hy : a.eval y = .agg cells) (hi : (P.info? ty).map (·.size) = some cells.size) (hold : c.size = cells.size) (h1 : cells.all (·.oneCell') = true)
    (h : wpList P ops Q rest (a.put o.dst undef) (w.alloc (.cells cells t))) : wpList P ops Q (o :: rest) a (w.alloc (.cells c t)) :=
  wpList_store_row hgd ty x y ho w.heap.size cells hx hy t c (heap_alloc_last w _) hi hold h1 (by rw [World.setRow_alloc_new]; exact h)
theorem dig_info (d : List UInt8) (h : d.length = 32) : (Tryd.prog.info? 23).map (·.size) = some (dig d).size := by rw [dig_size, h]; exact Tryd.size23
/-- A digest stored into the block that was made last. -/
theorem store_dig_new (hgd : o.guard = none) (x y : Operand) (ho : o.op = .store 23 x y) (w : World) (c : Array Value) (t : TypeId) (d : List UInt8) (hd : d.length = 32)
    (hx : a.eval x = .pointer (some ⟨w.heap.size, 0, none⟩)) (hy : a.eval y = .agg (dig d)) (hold : c.size = 32)
    (h : wpList Tryd.prog ops Q rest (a.put o.dst undef) (w.alloc (.cells (dig d) t))) : wpList Tryd.prog ops Q (o :: rest) a (w.alloc (.cells c t)) :=
  wpList_store_new hgd _ x y ho w c (dig d) t hx hy (dig_info d hd) (by rw [hold, dig_size, hd]) (dig_one d) h
/-- A digest stored into a block that is known. -/
theorem store_dig (hgd : o.guard = none) (x y : Operand) (ho : o.op = .store 23 x y) {w : World} {g : Nat} {c : Array Value} {t : TypeId} (hg : Blk w g t c) (d : List UInt8) (hd : d.length = 32)
    (hx : a.eval x = .pointer (some ⟨g, 0, none⟩)) (hy : a.eval y = .agg (dig d)) (hold : c.size = 32)
    (h : ∀ w', Blk w' g t (dig d) → Only w w' g → w'.heap.size = w.heap.size → wpList Tryd.prog ops Q rest (a.put o.dst undef) w') : wpList Tryd.prog ops Q (o :: rest) a w :=
  wpList_store_row hgd _ x y ho g (dig d) hx hy t c hg (dig_info d hd) (by rw [hold, dig_size, hd]) (dig_one d)
    (h _ (setRow_heap w g c _ t _ hg) ⟨rfl, rfl, rfl, by simp, fun i _ hne => setRow_other w g i _ (fun e => hne (by rw [e]))⟩ (by simp))
/-- A digest loaded out of a block that is known. -/
theorem load_dig (hgd : o.guard = none) (x : Operand) (ho : o.op = .load 23 x) {w : World} {g : Nat} {t : TypeId} (d : List UInt8) (hd : d.length = 32) (hg : Blk w g t (dig d))
    (hx : a.eval x = .pointer (some ⟨g, 0, none⟩)) (h : wpList Tryd.prog ops Q rest (a.put o.dst (.agg (dig d))) w) : wpList Tryd.prog ops Q (o :: rest) a w :=
  wpList_load_row hgd _ x ho g hx t (dig d) (0, 0) _ hg Tryd.underlying23 rfl (dig_info d hd) h

/-- The same at one operation of a region that draws its order. -/
theorem step_app {K : Act → World → Prop} {E : Prop} (hgd : o.guard = none) (s x : Operand) (tx : TypeId) (ho : o.op = .call { callee := .builtin .append, args := #[s, x], argTypes := #[39, tx] })
    (base : Nat) (W : World) (v : Value) (n : Nat) (xs : List Value) (hown : W.ownsRow base 5 1 v n xs) (hs : a.eval s = v)
    (xv : Value) (m : Nat) (news : List Value) (hsrc : Src Tryd.prog 1 tx xv m news W) (hx : a.eval x = xv) (h47 : n + m ≤ 140737488355328) (hbase : base ≤ W.heap.size)
    (h : ∀ v' w', w'.ownsRow base 5 1 v' (n + m) (xs ++ news) → Grew W w' v v' → K (a.put o.dst v') w') :
    if Region.wanted o (yielded ops a.tmps) = true then Oper.wp Tryd.prog o a W K Q else E := by
  have hw : Region.wanted o (yielded ops a.tmps) = true := by simp [Region.wanted, hgd]
  rw [if_pos hw]
  obtain ⟨v', w', hrun, h2, h3⟩ := run_append_own_src (P := Tryd.prog) W base 39 tx o.type 5 bInfo (.int .u8 0) 1 1 Tryd.underlying39 bInfo_eq bInfo_zero bInfo_size bInfo_bytes rfl v n xs hown xv m news hsrc (by simp only [maxLen]; omega) (by omega) hbase
  unfold Oper.wp execOp
  simp only [ho, resolve, invoke, builtin, Sem.run_bind, Sem.run_pure, Result.andThen_ok, List.map_toArray, List.map_cons, List.map_nil, hs, hx, hrun]
  exact h v' w' h2 h3
theorem src_byte {W : World} {g : Nat} {t : TypeId} (c : UInt8) (z : Int) (hz : z = (c.toNat : Int)) (h : Blk W g t #[.int .u8 z]) : Src Tryd.prog 1 39 (.slice (some ⟨g, 0, none⟩) 1 1) 1 [B8 c] W := by
  subst hz
  have hR : RdB W W.heap.size (some ⟨g, 0, none⟩) [c] := RdB.of_blk h fun k hk => by
    obtain rfl : k = 0 := by simpa using hk
    rfl
  exact src_bytes _ hR
theorem Grew.ne {w w' : World} {v v' : Value} (h : Grew w w' v v') {g : Nat} (hg : g < w.heap.size) (hne : some g ≠ v.ownBlock) : some g ≠ v'.ownBlock := by
  rcases h.2 with h2 | ⟨k, h2, h3⟩
  · rwa [h2]
  · rw [h2]; intro e; injection e; omega
theorem own_drew {w : World} {base : Nat} {e : TypeId} {size : Nat} {v : Value} {n : Nat} {xs : List Value} (h : w.ownsRow base e size v n xs) : w.drew.ownsRow base e size v n xs := h
theorem Grew.alloc_first {w w' : World} {v v' : Value} {ob : Obj} (h : Grew (w.alloc ob) w' v v') : Grew w w' v v' :=
  (Grew.of_below ((Below.refl _ w).alloc (Nat.le_refl _) ob) v).trans h
/-- 'b = append(b, c)': one byte onto bytes of the call's own. -/
theorem app_byte (hgd : o.guard = none) (s x : Operand) (ho : o.op = .call { callee := .builtin .append, args := #[s, x], argTypes := #[39, 39] })
    (base : Nat) (w : World) (v : Value) (n : Nat) (xs : List Value) (hs : a.eval s = v) (hown : w.ownsRow base 5 1 v n xs) (c : UInt8) (z : Int) (hz : z = (c.toNat : Int)) (t : TypeId)
    (hx : a.eval x = .slice (some ⟨w.heap.size, 0, none⟩) 1 1) (h47 : n + 1 ≤ 140737488355328) (hbase : base ≤ w.heap.size)
    (h : ∀ v' w', w'.ownsRow base 5 1 v' (n + 1) (xs ++ [B8 c]) → Grew w w' v v' → wpList Tryd.prog ops Q rest (a.put o.dst v') w') : wpList Tryd.prog ops Q (o :: rest) a (w.alloc (.cells #[.int .u8 z] t)) := by
  subst hz
  have hR : RdB (w.alloc (.cells #[.int .u8 (c.toNat : Int)] t)) (w.alloc (.cells #[.int .u8 (c.toNat : Int)] t)).heap.size (some ⟨w.heap.size, 0, none⟩) [c] :=
    RdB.of_blk (Blk.new w t _) fun k hk => by
      obtain rfl : k = 0 := by simpa using hk
      rfl
  exact app_bytes _ hgd s x 39 ho base v n xs hs (hown.alloc _) _ 1 [B8 c] hx (src_bytes _ hR) (by omega) (by simp; omega) fun v' w' h1 h2 => h v' w' h1 h2.alloc_first
/-- '[]byte(s)'. -/
theorem conv_str (hgd : o.guard = none) (x : Operand) (ho : o.op = .convert 9 39 x) (w : World) (s : ByteArray) (hs : s.size ≤ 140737488355328) (hx : a.eval x = .string s)
    (h : ∀ c w1, s.size ≤ c → c ≤ 9223372036854775807 → RdB w1 w1.heap.size (some ⟨w.heap.size, 0, none⟩) s.data.toList → Below w.heap.size w w1 → w1.heap.size = w.heap.size + 1 →
      wpList Tryd.prog ops Q rest (a.put o.dst (.slice (some ⟨w.heap.size, 0, none⟩) s.size c)) w1) : wpList Tryd.prog ops Q (o :: rest) a w :=
  wpList_plain hgd fun _ hK => by
    have hrun := Lib.run_convert_string_bytes (P := Tryd.prog) w 9 39 5 s Tryd.underlying9 Tryd.underlying39 Tryd.underlying5
    have hc := grownCap_ge w s.size 0 5
    have hc2 := grownCap_le_maxLen w s.size 0 5 (by simp only [maxLen]; omega)
    unfold Oper.wp execOp
    simp only [ho, hx, Sem.run_bind, Result.andThen_ok, hrun]
    refine hK _ _ (h _ _ hc hc2 ?_ ?_ (Lib.bytesWorld_size _ _ _))
    · intro _
      exact ⟨w.heap.size, 0, rfl, by rw [Lib.bytesWorld_size]; omega, fun k hk => by
        rw [Nat.zero_add, Lib.bytesWorld_cell w 5 s k hk]
        rfl⟩
    · exact ⟨rfl, rfl, rfl, by rw [Lib.bytesWorld_size]; omega, fun k hk => Lib.bytesWorld_at_old w 5 s k hk⟩
end
end Go.Proofs.YtibnikokgbfcdaaDoor

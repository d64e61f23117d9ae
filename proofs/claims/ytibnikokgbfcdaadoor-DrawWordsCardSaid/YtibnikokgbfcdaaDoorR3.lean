/- Walks: podiumref02.ror, word, numbers; plain laws by which they are the program's own. -/
import Derived.Test.YtibnikokgbfcdaaDoorQTail
import Derived.Test.YtibnikokgbfcdaaDoorOps
namespace Go.Proofs.YtibnikokgbfcdaaDoor
open Go.RowKit

theorem or_comm32 (a b : Int) : bits .or .u32 a b = bits .or .u32 b a := by
  show IntKind.u32.wrap ((BitVec.ofInt 32 a ||| BitVec.ofInt 32 b).toNat : Int) = IntKind.u32.wrap ((BitVec.ofInt 32 b ||| BitVec.ofInt 32 a).toNat : Int)
  rw [BitVec.or_comm]
set_option maxRecDepth 100000 in
set_option maxHeartbeats 1000000 in
theorem ror_any (x : Int) (n : Nat) (hn : n ≤ 31) (hn1 : 1 ≤ n) (w : World) :
    Calls Tryd.prog 137 #[.int .u32 x, .int .i64 n] w (fun e w' => e = .returned (.int .u32 (rotL x (32 - n))) ∧ ∃ m, w' = w.drewN m) := by
  have z0 : 0 ≤ (n : Int) := by omega
  have z1 : 0 ≤ 32 - (n : Int) := by omega
  have e1 : (32 - (n : Int)).toNat = 32 - n := by omega
  go_enter Tryd.func137, Tryd.ntmps137
  go_wp2_with fail
  go_quiet (fail)
  go_wp2
  go_ret
  refine ⟨?_, nq, rfl⟩
  rw [rotL, or_comm32, show 32 - (32 - n) = n by omega]
  rfl
theorem or32 (a b k : Nat) (hb : b < 2 ^ k) (h : 2 ^ k * a + b < 4294967296) : bits .or .u32 ((2 ^ k * a : Nat) : Int) (b : Int) = ((2 ^ k * a + b : Nat) : Int) := by
  show IntKind.u32.wrap ((BitVec.ofInt 32 ((2 ^ k * a : Nat) : Int) ||| BitVec.ofInt 32 (b : Int)).toNat : Int) = _
  rw [BitVec.ofInt_natCast, BitVec.ofInt_natCast, BitVec.toNat_or, BitVec.toNat_ofNat, BitVec.toNat_ofNat, Nat.mod_eq_of_lt (by omega), Nat.mod_eq_of_lt (by omega), ← Nat.two_pow_add_eq_or_of_lt hb, IntKind.wrap_u32]
  omega
/-- The four bytes, once as the program and once as the reference puts them together. -/
theorem word_both (a b c d : Nat) (ha : a < 256) (hb : b < 256) (hc : c < 256) (hd : d < 256) :
    bits .or .u32 (bits .or .u32 (bits .or .u32 ((a : Int) % 4294967296 * 16777216 % 4294967296) ((b : Int) % 4294967296 * 65536 % 4294967296)) ((c : Int) % 4294967296 * 256 % 4294967296)) ((d : Int) % 4294967296) =
    bits .or .u32 (bits .or .u32 (bits .or .u32 (bits .or .u32 (0 * 2 ^ 8 % 4294967296) ((a : Int) % 4294967296) * 2 ^ 8 % 4294967296) ((b : Int) % 4294967296) * 2 ^ 8 % 4294967296) ((c : Int) % 4294967296) * 2 ^ 8 % 4294967296) ((d : Int) % 4294967296) := by
  have l1 := or32 a (65536 * b) 24 (by omega) (by omega)
  have l2 := or32 (256 * a + b) (256 * c) 16 (by omega) (by omega)
  have l3 := or32 (65536 * a + 256 * b + c) d 8 (by omega) (by omega)
  have r0 := or32 0 a 8 (by omega) (by omega)
  have r1 := or32 a b 8 (by omega) (by omega)
  have r2 := or32 (256 * a + b) c 8 (by omega) (by omega)
  rw [show (a : Int) % 4294967296 * 16777216 % 4294967296 = ((2 ^ 24 * a : Nat) : Int) by omega, show (b : Int) % 4294967296 * 65536 % 4294967296 = ((65536 * b : Nat) : Int) by omega, l1,
    show ((2 ^ 24 * a + 65536 * b : Nat) : Int) = ((2 ^ 16 * (256 * a + b) : Nat) : Int) by omega, show (c : Int) % 4294967296 * 256 % 4294967296 = ((256 * c : Nat) : Int) by omega, l2,
    show ((2 ^ 16 * (256 * a + b) + 256 * c : Nat) : Int) = ((2 ^ 8 * (65536 * a + 256 * b + c) : Nat) : Int) by omega, show (d : Int) % 4294967296 = (d : Int) by omega, l3,
    show (0 : Int) * 2 ^ 8 % 4294967296 = ((2 ^ 8 * 0 : Nat) : Int) by omega, show (a : Int) % 4294967296 = (a : Int) by omega, r0,
    show ((2 ^ 8 * 0 + a : Nat) : Int) * 2 ^ 8 % 4294967296 = ((2 ^ 8 * a : Nat) : Int) by omega, show (b : Int) % 4294967296 = (b : Int) by omega, r1,
    show ((2 ^ 8 * a + b : Nat) : Int) * 2 ^ 8 % 4294967296 = ((2 ^ 8 * (256 * a + b) : Nat) : Int) by omega, show (c : Int) % 4294967296 = (c : Int) by omega, r2,
    show ((2 ^ 8 * (256 * a + b) + c : Nat) : Int) * 2 ^ 8 % 4294967296 = ((2 ^ 8 * (65536 * a + 256 * b + c) : Nat) : Int) by omega, l3]
theorem word_four (f : Nat → Int) (hf : ∀ k, k < 4 → 0 ≤ f k ∧ f k < 256) :
    bits .or .u32 (bits .or .u32 (bits .or .u32 (f 0 % 4294967296 * 16777216 % 4294967296) (f 1 % 4294967296 * 65536 % 4294967296)) (f 2 % 4294967296 * 256 % 4294967296)) (f 3 % 4294967296) = wordTo f 4 := by
  obtain ⟨a, ha⟩ : ∃ a : Nat, f 0 = a := ⟨(f 0).toNat, by have := hf 0 (by omega); omega⟩
  obtain ⟨b, hb⟩ : ∃ a : Nat, f 1 = a := ⟨(f 1).toNat, by have := hf 1 (by omega); omega⟩
  obtain ⟨c, hc⟩ : ∃ a : Nat, f 2 = a := ⟨(f 2).toNat, by have := hf 2 (by omega); omega⟩
  obtain ⟨d, hd⟩ : ∃ a : Nat, f 3 = a := ⟨(f 3).toNat, by have := hf 3 (by omega); omega⟩
  have h0 := hf 0 (by omega)
  have h1 := hf 1 (by omega)
  have h2 := hf 2 (by omega)
  have h3 := hf 3 (by omega)
  show _ = bits .or .u32 (bits .or .u32 (bits .or .u32 (bits .or .u32 (0 * 2 ^ 8 % 4294967296) (f 0 % 4294967296) * 2 ^ 8 % 4294967296) (f 1 % 4294967296) * 2 ^ 8 % 4294967296) (f 2 % 4294967296) * 2 ^ 8 % 4294967296) (f 3 % 4294967296)
  rw [ha, hb, hc, hd]
  exact word_both a b c d (by omega) (by omega) (by omega) (by omega)
set_option maxRecDepth 100000 in
set_option maxHeartbeats 1000000 in
theorem rword_any (b off len cap : Nat) (f : Nat → Int) (w : World) (hlen : 4 ≤ len) (hc : ∀ k, k < 4 → w.cell? ⟨b, off + k, none⟩ = some (.int .u8 (f k))) (hf : ∀ k, k < 4 → 0 ≤ f k ∧ f k < 256) :
    Calls Tryd.prog 136 #[.slice (some ⟨b, off, none⟩) len cap] w (fun e w' => e = .returned (.int .u32 (wordTo f 4)) ∧ ∃ m, w' = w.drewN m) := by
  have c0 : w.cell? ⟨b, off, none⟩ = some (.int .u8 (f 0)) := hc 0 (by omega)
  have c1 := hc 1 (by omega)
  have c2 := hc 2 (by omega)
  have c3 := hc 3 (by omega)
  have l0 : (0 : Int) < (len : Int) := by omega
  have l1 : (1 : Int) < (len : Int) := by omega
  have l2 : (2 : Int) < (len : Int) := by omega
  have l3 : (3 : Int) < (len : Int) := by omega
  go_enter Tryd.func136, Tryd.ntmps136
  go_wp2_with fail
  go_quiet (fail)
  go_wp2
  go_ret
  exact ⟨congrArg (fun z => Ending.returned (.int .u32 z)) (word_four f hf), nq, rfl⟩
theorem a64Size : (Tryd.prog.info? 156).map (·.size) = some (kList.map (Value.int .u32)).toArray.size := by kernel_rfl
theorem kOne : (kList.map (Value.int .u32)).toArray.all (·.oneCell') = true := by kernel_rfl
theorem wpList_build_run {P : Program} {ops : Array Oper} {rest : List Oper} {o : Oper} {a : Act} {w : World} {Q : Exit → Act → World → Prop} (hgd : o.guard = none) (t : TypeId) (args : Array (Nat × Operand)) (_ho : o.op = .build t args) (v : Value)
    (hrun : (execOp a.eval o).run P w = .ok (.value v) w) (h : wpList P ops Q rest (a.put o.dst v) w) : wpList P ops Q (o :: rest) a w :=
  wpList_plain hgd fun _ hK => by
    unfold Oper.wp
    rw [hrun]
    exact hK _ _ h
set_option maxRecDepth 100000 in
set_option maxHeartbeats 1000000 in
theorem rnumbers_any (w : World) : Calls Tryd.prog 138 #[] w (Ret (.agg (kList.map (Value.int .u32)).toArray) w) := by
  go_enter Tryd.func138, Tryd.ntmps138
  go_wp2_with (refine wpList_build_run rfl 156 _ rfl (.agg (kList.map (Value.int .u32)).toArray) (by as_aux_lemma => kernel_rfl) ?_; refine wpList_store_new rfl 156 _ _ rfl w _ (kList.map (Value.int .u32)).toArray 156 rfl rfl a64Size rfl kOne ?_)
  refine bodyPost_ret (results_cell_row rfl _ _ w.heap.size 156 _ (0, 0) _ rfl (Blk.new w 156 (kList.map (Value.int .u32)).toArray) Tryd.underlying156 rfl a64Size) rfl ?_
  exact ⟨rfl, (Below.refl _ w).alloc (Nat.le_refl _) _⟩
end Go.Proofs.YtibnikokgbfcdaaDoor

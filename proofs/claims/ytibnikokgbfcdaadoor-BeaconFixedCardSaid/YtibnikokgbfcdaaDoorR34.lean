/- Several texts in one: R3, R4. -/
import Derived.Test.YtibnikokgbfcdaaDoorBase
import Derived.Test.YtibnikokgbfcdaaDoorLow
import Derived.BigQuiet
/- Walks: podiumref02.ror, word, numbers; plain laws by which they are the program's own. -/
namespace Go.Proofs.YtibnikokgbfcdaaDoor
open Go.RowKit

theorem or_comm32 (a b : Int) : bits .or .u32 a b = bits .or .u32 b a := by
  show IntKind.u32.wrap ((BitVec.ofInt 32 a ||| BitVec.ofInt 32 b).toNat : Int) = IntKind.u32.wrap ((BitVec.ofInt 32 b ||| BitVec.ofInt 32 a).toNat : Int)
  rw [BitVec.or_comm]
set_option maxRecDepth 100000 in
set_option maxHeartbeats 1000000 in
theorem ror_any (x : Int) (n : Nat) (hn : n ≤ 31) (hn1 : 1 ≤ n) (w : World) :
    Calls Tryd.prog 137 #[.int .u32 x, .int .i64 n] w (fun e w' => e = .returned (.int .u32 (rotL x (32 - n))) ∧ ∃ m, w' = w.drewN m) := by
  have z0 : 0 ≤ (n : Int) := by omega
  have z1 : 0 ≤ 32 - (n : Int) := by omega
  have e1 : (32 - (n : Int)).toNat = 32 - n := by omega
  go_enter Tryd.func137, Tryd.ntmps137
  go_wp2_with fail
  go_quiet (fail)
  go_wp2
  go_ret
  refine ⟨?_, nq, rfl⟩
  rw [rotL, or_comm32, show 32 - (32 - n) = n by omega]
  rfl
theorem or32 (a b k : Nat) (hb : b < 2 ^ k) (h : 2 ^ k * a + b < 4294967296) : bits .or .u32 ((2 ^ k * a : Nat) : Int) (b : Int) = ((2 ^ k * a + b : Nat) : Int) := by
  show IntKind.u32.wrap ((BitVec.ofInt 32 ((2 ^ k * a : Nat) : Int) ||| BitVec.ofInt 32 (b : Int)).toNat : Int) = _
  rw [BitVec.ofInt_natCast, BitVec.ofInt_natCast, BitVec.toNat_or, BitVec.toNat_ofNat, BitVec.toNat_ofNat, Nat.mod_eq_of_lt (by omega), Nat.mod_eq_of_lt (by omega), ← Nat.two_pow_add_eq_or_of_lt hb, IntKind.wrap_u32]
  omega
/-- The four bytes, once as the program and once as the reference puts them together. -/
theorem word_both (a b c d : Nat) (ha : a < 256) (hb : b < 256) (hc : c < 256) (hd : d < 256) :
    bits .or .u32 (bits .or .u32 (bits .or .u32 ((a : Int) % 4294967296 * 16777216 % 4294967296) ((b : Int) % 4294967296 * 65536 % 4294967296)) ((c : Int) % 4294967296 * 256 % 4294967296)) ((d : Int) % 4294967296) =
    bits .or .u32 (bits .or .u32 (bits .or .u32 (bits .or .u32 (0 * 2 ^ 8 % 4294967296) ((a : Int) % 4294967296) * 2 ^ 8 % 4294967296) ((b : Int) % 4294967296) * 2 ^ 8 % 4294967296) ((c : Int) % 4294967296) * 2 ^ 8 % 4294967296) ((d : Int) % 4294967296) := by
  have l1 := or32 a (65536 * b) 24 (by omega) (by omega)
  have l2 := or32 (256 * a + b) (256 * c) 16 (by omega) (by omega)
  have l3 := or32 (65536 * a + 256 * b + c) d 8 (by omega) (by omega)
  have r0 := or32 0 a 8 (by omega) (by omega)
  have r1 := or32 a b 8 (by omega) (by omega)
  have r2 := or32 (256 * a + b) c 8 (by omega) (by omega)
  rw [show (a : Int) % 4294967296 * 16777216 % 4294967296 = ((2 ^ 24 * a : Nat) : Int) by omega, show (b : Int) % 4294967296 * 65536 % 4294967296 = ((65536 * b : Nat) : Int) by omega, l1,
    show ((2 ^ 24 * a + 65536 * b : Nat) : Int) = ((2 ^ 16 * (256 * a + b) : Nat) : Int) by omega, show (c : Int) % 4294967296 * 256 % 4294967296 = ((256 * c : Nat) : Int) by omega, l2,
    show ((2 ^ 16 * (256 * a + b) + 256 * c : Nat) : Int) = ((2 ^ 8 * (65536 * a + 256 * b + c) : Nat) : Int) by omega, show (d : Int) % 4294967296 = (d : Int) by omega, l3,
    show (0 : Int) * 2 ^ 8 % 4294967296 = ((2 ^ 8 * 0 : Nat) : Int) by omega, show (a : Int) % 4294967296 = (a : Int) by omega, r0,
    show ((2 ^ 8 * 0 + a : Nat) : Int) * 2 ^ 8 % 4294967296 = ((2 ^ 8 * a : Nat) : Int) by omega, show (b : Int) % 4294967296 = (b : Int) by omega, r1,
    show ((2 ^ 8 * a + b : Nat) : Int) * 2 ^ 8 % 4294967296 = ((2 ^ 8 * (256 * a + b) : Nat) : Int) by omega, show (c : Int) % 4294967296 = (c : Int) by omega, r2,
    show ((2 ^ 8 * (256 * a + b) + c : Nat) : Int) * 2 ^ 8 % 4294967296 = ((2 ^ 8 * (65536 * a + 256 * b + c) : Nat) : Int) by omega, l3]
theorem word_four (f : Nat → Int) (hf : ∀ k, k < 4 → 0 ≤ f k ∧ f k < 256) :
    bits .or .u32 (bits .or .u32 (bits .or .u32 (f 0 % 4294967296 * 16777216 % 4294967296) (f 1 % 4294967296 * 65536 % 4294967296)) (f 2 % 4294967296 * 256 % 4294967296)) (f 3 % 4294967296) = wordTo f 4 := by
  obtain ⟨a, ha⟩ : ∃ a : Nat, f 0 = a := ⟨(f 0).toNat, by have := hf 0 (by omega); omega⟩
  obtain ⟨b, hb⟩ : ∃ a : Nat, f 1 = a := ⟨(f 1).toNat, by have := hf 1 (by omega); omega⟩
  obtain ⟨c, hc⟩ : ∃ a : Nat, f 2 = a := ⟨(f 2).toNat, by have := hf 2 (by omega); omega⟩
  obtain ⟨d, hd⟩ : ∃ a : Nat, f 3 = a := ⟨(f 3).toNat, by have := hf 3 (by omega); omega⟩
  have h0 := hf 0 (by omega)
  have h1 := hf 1 (by omega)
  have h2 := hf 2 (by omega)
  have h3 := hf 3 (by omega)
  show _ = bits .or .u32 (bits .or .u32 (bits .or .u32 (bits .or .u32 (0 * 2 ^ 8 % 4294967296) (f 0 % 4294967296) * 2 ^ 8 % 4294967296) (f 1 % 4294967296) * 2 ^ 8 % 4294967296) (f 2 % 4294967296) * 2 ^ 8 % 4294967296) (f 3 % 4294967296)
  rw [ha, hb, hc, hd]
  exact word_both a b c d (by omega) (by omega) (by omega) (by omega)
set_option maxRecDepth 100000 in
set_option maxHeartbeats 1000000 in
theorem rword_any (b off len cap : Nat) (f : Nat → Int) (w : World) (hlen : 4 ≤ len) (hc : ∀ k, k < 4 → w.cell? ⟨b, off + k, none⟩ = some (.int .u8 (f k))) (hf : ∀ k, k < 4 → 0 ≤ f k ∧ f k < 256) :
    Calls Tryd.prog 136 #[.slice (some ⟨b, off, none⟩) len cap] w (fun e w' => e = .returned (.int .u32 (wordTo f 4)) ∧ ∃ m, w' = w.drewN m) := by
  have c0 : w.cell? ⟨b, off, none⟩ = some (.int .u8 (f 0)) := hc 0 (by omega)
  have c1 := hc 1 (by omega)
  have c2 := hc 2 (by omega)
  have c3 := hc 3 (by omega)
  have l0 : (0 : Int) < (len : Int) := by omega
  have l1 : (1 : Int) < (len : Int) := by omega
  have l2 : (2 : Int) < (len : Int) := by omega
  have l3 : (3 : Int) < (len : Int) := by omega
  go_enter Tryd.func136, Tryd.ntmps136
  go_wp2_with fail
  go_quiet (fail)
  go_wp2
  go_ret
  exact ⟨congrArg (fun z => Ending.returned (.int .u32 z)) (word_four f hf), nq, rfl⟩
theorem a64Size : (Tryd.prog.info? 156).map (·.size) = some (kList.map (Value.int .u32)).toArray.size := by kernel_rfl
theorem kOne : (kList.map (Value.int .u32)).toArray.all (·.oneCell') = true := by kernel_rfl
theorem wpList_build_run {P : Program} {ops : Array Oper} {rest : List Oper} {o : Oper} {a : Act} {w : World} {Q : Exit → Act → World → Prop} (hgd : o.guard = none) (t : TypeId) (args : Array (Nat × Operand)) (_ho : o.op = .build t args) (v : Value)
    (hrun : (execOp a.eval o).run P w = .ok (.value v) w) (h : wpList P ops Q rest (a.put o.dst v) w) : wpList P ops Q (o :: rest) a w :=
  wpList_plain hgd fun _ hK => by
    unfold Oper.wp
    rw [hrun]
    exact hK _ _ h
set_option maxRecDepth 100000 in
set_option maxHeartbeats 1000000 in
theorem rnumbers_any (w : World) : Calls Tryd.prog 138 #[] w (Ret (.agg (kList.map (Value.int .u32)).toArray) w) := by
  go_enter Tryd.func138, Tryd.ntmps138
  go_wp2_with (refine wpList_build_run rfl 156 _ rfl (.agg (kList.map (Value.int .u32)).toArray) (by as_aux_lemma => kernel_rfl) ?_; refine wpList_store_new rfl 156 _ _ rfl w _ (kList.map (Value.int .u32)).toArray 156 rfl rfl a64Size rfl kOne ?_)
  refine bodyPost_ret (results_cell_row rfl _ _ w.heap.size 156 _ (0, 0) _ rfl (Blk.new w 156 (kList.map (Value.int .u32)).toArray) Tryd.underlying156 rfl a64Size) rfl ?_
  exact ⟨rfl, (Below.refl _ w).alloc (Nat.le_refl _) _⟩
end Go.Proofs.YtibnikokgbfcdaaDoor

/- Walk: podiumref02.block. -/
namespace Go.Proofs.YtibnikokgbfcdaaDoor
open Go.RowKit

theorem ror_lit (x m : Int) (h1 : 1 ≤ m) (h2 : m ≤ 31) (w : World) :
    Calls Tryd.prog 137 #[.int .u32 x, .int .i64 m] w (fun e w' => e = .returned (.int .u32 (rotL x (32 - m.toNat))) ∧ ∃ m, w' = w.drewN m) := by
  have h := ror_any x m.toNat (by omega) (by omega) w
  rwa [Int.toNat_of_nonneg (by omega)] at h
def zz8 : Array Value := #[.int .u32 0, .int .u32 0, .int .u32 0, .int .u32 0, .int .u32 0, .int .u32 0, .int .u32 0, .int .u32 0]
/-- What the walk of a block holds on to: the schedule up to k, the state's box, the result's block. -/
def RB (w : World) (s : St) (f : Nat → Int) (k : Nat) (wr : World) : Prop :=
  SchedCells wr (w.heap.size + 1 + 1) f k ∧ Blk wr w.heap.size 139 s.cells ∧ Blk wr (w.heap.size + 1) 139 zz8 ∧ Below w.heap.size w wr
theorem RB.drewN {w : World} {s : St} {f : Nat → Int} {k : Nat} {wr : World} (h : RB w s f k wr) (m : Nat) : RB w s f k (wr.drewN m) := by
  obtain ⟨⟨cs, h1, h2, h3⟩, h4, h5, h7⟩ := h
  exact ⟨⟨cs, h1.drewN m, h2, h3⟩, h4.drewN m, h5.drewN m, below_drewN h7 m⟩
theorem RB.below {w : World} {s : St} {f : Nat → Int} {k : Nat} {wr w' : World} (h : RB w s f k wr) (hb : Below wr.heap.size wr w') : RB w s f k w' := by
  obtain ⟨⟨cs, h1, h2, h3⟩, h4, h5, h7⟩ := h
  exact ⟨⟨cs, h1.below hb h1.lt, h2, h3⟩, h4.below hb h4.lt, h5.below hb h5.lt, h7.trans (hb.mono h7.size)⟩
theorem RB.put {w : World} {s : St} {f : Nat → Int} {k : Nat} {wr : World} (h : RB w s f k wr) (hk : k < 16) : RB w s f (k + 1) (wr.setCell ⟨w.heap.size + 1 + 1, k, none⟩ (.int .u32 (wordTo (fun j => f (4 * k + j)) 4))) := by
  obtain ⟨⟨cs, h1, h2, h3⟩, h4, h5, h7⟩ := h
  exact ⟨⟨_, h1.set k _, by simpa using h2, sched_put h2 h3 hk⟩, h4.far (p := ⟨w.heap.size + 1 + 1, k, none⟩) (by show w.heap.size ≠ w.heap.size + 1 + 1; omega) _, h5.far (p := ⟨w.heap.size + 1 + 1, k, none⟩) (by show w.heap.size + 1 ≠ w.heap.size + 1 + 1; omega) _, h7.setCell (p := ⟨w.heap.size + 1 + 1, k, none⟩) (by show w.heap.size ≤ w.heap.size + 1 + 1; omega) _⟩
theorem RB.next {w : World} {s : St} {f : Nat → Int} {k : Nat} {wr : World} (h : RB w s f k wr) (hk : 16 ≤ k) (hk64 : k < 64) (z : Int) (hz : z = (sched f (k - 16) + sg0 (sched f (k - 15)) + sched f (k - 7) + sg1 (sched f (k - 2))) % 4294967296) :
    RB w s f (k + 1) (wr.setCell ⟨w.heap.size + 1 + 1, k, none⟩ (.int .u32 z)) := by
  subst hz
  obtain ⟨⟨cs, h1, h2, h3⟩, h4, h5, h7⟩ := h
  exact ⟨⟨_, h1.set k _, by simpa using h2, sched_next h2 h3 hk hk64⟩, h4.far (p := ⟨w.heap.size + 1 + 1, k, none⟩) (by show w.heap.size ≠ w.heap.size + 1 + 1; omega) _, h5.far (p := ⟨w.heap.size + 1 + 1, k, none⟩) (by show w.heap.size + 1 ≠ w.heap.size + 1 + 1; omega) _, h7.setCell (p := ⟨w.heap.size + 1 + 1, k, none⟩) (by show w.heap.size ≤ w.heap.size + 1 + 1; omega) _⟩
theorem RB.some_ {w : World} {s : St} {f : Nat → Int} {k : Nat} {wr : World} (h : RB w s f k wr) {i : Nat} (hi : i < 64) : (∃ v, wr.cell? ⟨w.heap.size + 1 + 1, i, none⟩ = some v) ∧ wr.frozen? ⟨w.heap.size + 1 + 1, i, none⟩ = false := by
  obtain ⟨⟨cs, h1, h2, h3⟩, -⟩ := h
  exact ⟨h1.some_ (by omega), h1.frozen i⟩
theorem RB.at_ {w : World} {s : St} {f : Nat → Int} {k : Nat} {wr : World} (h : RB w s f k wr) {i : Nat} (hi : i < k) : wr.cell? ⟨w.heap.size + 1 + 1, i, none⟩ = some (.int .u32 (sched f i)) := by
  obtain ⟨⟨cs, h1, h2, h3⟩, -⟩ := h
  exact (h1.cell i).trans (h3 i hi)

theorem Blk.new_at (w : World) {g : Nat} (t : TypeId) (cs : Array Value) (h : g = w.heap.size) : Blk (w.alloc (.cells cs t)) g t cs := by subst h; exact Blk.new w t cs
theorem slice_four (W : World) (b off c k : Nat) (hk : k < 16) (hc : 64 ≤ c) : (Instr.slice 39 (.slice (some ⟨b, off, none⟩) 64 c) (some (.int .i64 (4 * (k : Int)))) (some (.int .i64 (4 * (k : Int) + 4))) none).run Tryd.prog W = .ok (.slice (some ⟨b, off + 4 * k, none⟩) 4 (c - 4 * k)) W := by
  have e1 : (4 * (k : Int)).toNat = 4 * k := by omega
  have e2 : (4 * (k : Int) + 4).toNat = 4 * k + 4 := by omega
  have n1 : 0 ≤ 4 * (k : Int) ∧ 4 * (k : Int) ≤ 4 * (k : Int) + 4 := by omega
  have n2 : 0 ≤ 4 * (k : Int) + 4 ∧ 4 * (k : Int) + 4 ≤ (c : Int) := by omega
  have n5 : ¬ (c = 4 * k) := by omega
  simp [Instr.slice, run_underlying Tryd.underlying39, Instr.sliceBounds, Instr.sliceBound, asIntOf, e1, e2, n1, n2, n5, Addr.add_mid]

theorem RB.start_ (w : World) (s : St) (f : Nat → Int) (y : Array Value) (hy : y.size = 64) : RB w s f 0 (((w.alloc (.cells s.cells 139)).alloc (.cells zz8 139)).alloc (.cells y 156)) :=
  ⟨⟨y, Blk.new_at _ _ _ (by simp), hy, fun i h => absurd h (by omega)⟩, ((Blk.new_at _ _ _ rfl).alloc _).alloc _, (Blk.new_at _ _ _ (by simp)).alloc _, (((Below.refl _ w).alloc (Nat.le_refl _) _).alloc (by simp) _).alloc (by simp; omega) _⟩
theorem kcell (k : Nat) (h : k < 64) : (kList.map (Value.int .u32)).toArray[k]? = some (.int .u32 (kAt k)) := by
  have hl : kList.length = 64 := rfl
  simp [kAt, List.getD_eq_getElem?_getD, List.getElem?_eq_getElem (show k < kList.length by omega)]
theorem a8Size : (Tryd.prog.info? 139).map (·.size) = some 8 := by kernel_rfl
section
variable {ops : Array Oper} {rest : List Oper} {o : Oper} {a : Act} {Q : Exit → Act → World → Prop}
/-- A value of eight words stored into a block that is known. -/
theorem store_agg (hgd : o.guard = none) (ty : TypeId) (x y : Operand) (ho : o.op = .store ty x y) {w : World} {g : Nat} {c : Array Value} {t : TypeId} (hg : Blk w g t c) (cells : Array Value)
    (hx : a.eval x = .pointer (some ⟨g, 0, none⟩)) (hy : a.eval y = .agg cells) (hi : (Tryd.prog.info? ty).map (·.size) = some cells.size) (hold : c.size = cells.size) (h1 : cells.all (·.oneCell') = true)
    (h : ∀ w', Blk w' g t cells → Only w w' g → w'.heap.size = w.heap.size → wpList Tryd.prog ops Q rest (a.put o.dst undef) w') : wpList Tryd.prog ops Q (o :: rest) a w :=
  wpList_store_row hgd _ x y ho g cells hx hy t c hg hi hold h1
    (h _ (setRow_heap w g c _ t _ hg) ⟨rfl, rfl, rfl, by simp, fun i _ hne => setRow_other w g i _ (fun e => hne (by rw [e]))⟩ (by simp))
end
theorem bits_xor (a b : Int) : bits .xor .u32 a b = IntKind.u32.wrap ((BitVec.ofInt 32 a ^^^ BitVec.ofInt 32 b).toNat : Int) := rfl
theorem bits_and (a b : Int) : bits .and .u32 a b = IntKind.u32.wrap ((BitVec.ofInt 32 a &&& BitVec.ofInt 32 b).toNat : Int) := rfl
theorem bits_or (a b : Int) : bits .or .u32 a b = IntKind.u32.wrap ((BitVec.ofInt 32 a ||| BitVec.ofInt 32 b).toNat : Int) := rfl
theorem ofInt_wrap (x : BitVec 32) : BitVec.ofInt 32 (IntKind.u32.wrap (x.toNat : Int)) = x := by
  rw [IntKind.wrap_u32]
  apply BitVec.eq_of_toNat_eq
  rw [BitVec.toNat_ofInt]
  have := x.isLt
  omega
theorem max_ones : BitVec.ofInt 32 IntKind.u32.max = BitVec.allOnes 32 := by decide
theorem ch_both (e f g : Int) : bits .xor .u32 (bits .and .u32 e f) (bits .and .u32 (bits .xor .u32 IntKind.u32.max e) g) = bits .xor .u32 g (bits .and .u32 e (bits .xor .u32 f g)) := by
  simp only [bits_xor, bits_and, ofInt_wrap, max_ones]
  generalize BitVec.ofInt 32 e = x
  generalize BitVec.ofInt 32 f = y
  generalize BitVec.ofInt 32 g = z
  have h : x &&& y ^^^ (BitVec.allOnes 32 ^^^ x) &&& z = z ^^^ x &&& (y ^^^ z) := by
    apply BitVec.eq_of_getLsbD_eq
    intro i hi
    simp only [BitVec.getLsbD_xor, BitVec.getLsbD_and, BitVec.getLsbD_allOnes, hi, decide_true]
    cases x.getLsbD i <;> cases y.getLsbD i <;> cases z.getLsbD i <;> rfl
  rw [h]
theorem maj_both (a b c : Int) : bits .xor .u32 (bits .xor .u32 (bits .and .u32 a b) (bits .and .u32 a c)) (bits .and .u32 b c) = bits .or .u32 (bits .and .u32 a b) (bits .and .u32 c (bits .or .u32 a b)) := by
  simp only [bits_xor, bits_and, bits_or, ofInt_wrap]
  generalize BitVec.ofInt 32 a = x
  generalize BitVec.ofInt 32 b = y
  generalize BitVec.ofInt 32 c = z
  have h : x &&& y ^^^ x &&& z ^^^ y &&& z = x &&& y ||| z &&& (x ||| y) := by
    apply BitVec.eq_of_getLsbD_eq
    intro i hi
    simp only [BitVec.getLsbD_xor, BitVec.getLsbD_and, BitVec.getLsbD_or]
    cases x.getLsbD i <;> cases y.getLsbD i <;> cases z.getLsbD i <;> rfl
  rw [h]
theorem step_both (X : St) (k w : Int) : ((X.h + bits .xor .u32 (bits .xor .u32 (rotL X.e 26) (rotL X.e 21)) (rotL X.e 7) + bits .xor .u32 (bits .and .u32 X.e X.f) (bits .and .u32 (bits .xor .u32 IntKind.u32.max X.e) X.g) + k + w) % 4294967296 +
      (bits .xor .u32 (bits .xor .u32 (rotL X.a 30) (rotL X.a 19)) (rotL X.a 10) + bits .xor .u32 (bits .xor .u32 (bits .and .u32 X.a X.b) (bits .and .u32 X.a X.c)) (bits .and .u32 X.b X.c)) % 4294967296) % 4294967296 = (X.step k w).a := by
  rw [ch_both, maj_both]
  show _ = (X.p0 k w + X.q0) % 4294967296
  rw [St.p0, St.q0, rot3, rot3]
  generalize bits .xor .u32 X.g (bits .and .u32 X.e (bits .xor .u32 X.f X.g)) = c1
  generalize bits .or .u32 (bits .and .u32 X.a X.b) (bits .and .u32 X.c (bits .or .u32 X.a X.b)) = c2
  show ((X.h + bits .xor .u32 (bits .xor .u32 (rotL X.e 26) (rotL X.e 21)) (rotL X.e 7) + c1 + k + w) % 4294967296 + (bits .xor .u32 (bits .xor .u32 (rotL X.a 30) (rotL X.a 19)) (rotL X.a 10) + c2) % 4294967296) % 4294967296 =
    (X.h + bits .xor .u32 (bits .xor .u32 (rotL X.e 26) (rotL X.e 21)) (rotL X.e 7) + c1 + k + w + (bits .xor .u32 (bits .xor .u32 (rotL X.a 30) (rotL X.a 19)) (rotL X.a 10) + c2)) % 4294967296
  omega
theorem step_both' (X : St) (k w : Int) : (X.d + (X.h + bits .xor .u32 (bits .xor .u32 (rotL X.e 26) (rotL X.e 21)) (rotL X.e 7) + bits .xor .u32 (bits .and .u32 X.e X.f) (bits .and .u32 (bits .xor .u32 IntKind.u32.max X.e) X.g) + k + w) % 4294967296) % 4294967296 = (X.step k w).e := by
  rw [ch_both]
  show _ = (X.d + X.p0 k w) % 4294967296
  rw [St.p0, rot3]
  generalize bits .xor .u32 X.g (bits .and .u32 X.e (bits .xor .u32 X.f X.g)) = c1
  show (X.d + (X.h + bits .xor .u32 (bits .xor .u32 (rotL X.e 26) (rotL X.e 21)) (rotL X.e 7) + c1 + k + w) % 4294967296) % 4294967296 =
    (X.d + (X.h + bits .xor .u32 (bits .xor .u32 (rotL X.e 26) (rotL X.e 21)) (rotL X.e 7) + c1 + k + w)) % 4294967296
  omega
def z64 : Array Value := Array.replicate 64 (.int .u32 0)
theorem z64Size : (Tryd.prog.info? 156).map (·.size) = some z64.size := by kernel_rfl
theorem z64One : z64.all (·.oneCell') = true := by kernel_rfl
theorem wpList_alloc_run {P : Program} {ops : Array Oper} {rest : List Oper} {o : Oper} {a : Act} {w : World} {Q : Exit → Act → World → Prop} (hgd : o.guard = none) (t : TypeId) (_ho : o.op = .alloc t) (cs : Array Value)
    (hrun : (execOp a.eval o).run P w = .ok (.value (.pointer (some ⟨w.heap.size, 0, none⟩))) (w.alloc (.cells cs t))) (h : wpList P ops Q rest (a.put o.dst (.pointer (some ⟨w.heap.size, 0, none⟩))) (w.alloc (.cells cs t))) : wpList P ops Q (o :: rest) a w :=
  wpList_plain hgd fun _ hK => by
    unfold Oper.wp
    rw [hrun]
    exact hK _ _ h
set_option maxRecDepth 100000 in
set_option maxHeartbeats 8000000 in
theorem rblock_any (s : St) (b off c : Nat) (f : Nat → Int) (w : World) (hc : 64 ≤ c)
    (hr : ∀ k, k < 64 → w.cell? ⟨b, off + k, none⟩ = some (.int .u8 (f k))) (hf : ∀ k, k < 64 → 0 ≤ f k ∧ f k < 256) :
    Calls Tryd.prog 132 #[.agg s.cells, .slice (some ⟨b, off, none⟩) 64 c] w (Ret (.agg (s.block f).cells) w) := by
  have hbl : b < w.heap.size := World.block_lt_of_cell? w _ (hr 0 (by omega))
  have HR := Lib.hid hr
  have HF := Lib.hid hf
  clear hr hf
  show Calls Tryd.prog 132 #[.agg #[.int .u32 s.a, .int .u32 s.b, .int .u32 s.c, .int .u32 s.d, .int .u32 s.e, .int .u32 s.f, .int .u32 s.g, .int .u32 s.h], .slice (some ⟨b, off, none⟩) 64 c] w (Ret (.agg (s.block f).cells) w)
  go_enter Tryd.func132, Tryd.ntmps132
  go_wp2_with (refine wpList_build_run rfl 156 _ rfl (.agg z64) (by as_aux_lemma => kernel_rfl) ?_; refine wpList_alloc_run rfl 156 rfl z64 (by as_aux_lemma => kernel_rfl) ?_; refine wpList_store_new rfl 156 _ _ rfl _ _ z64 156 rfl rfl z64Size rfl z64One ?_)
  go_loopw [6] (fun i wr => ∃ k : Nat, k ≤ 16 ∧ i = .int .i64 k ∧ RB w s f k wr) (fun i _ => 16 - (intOf i).toNat)
  case atStart => exact ⟨0, by omega, rfl, RB.start_ w s f z64 rfl⟩
  case round =>
    obtain ⟨k, hk16, rfl, hB⟩ := hrel
    by_cases hlt : k < 16
    · obtain ⟨⟨v, hcell⟩, hfz⟩ := hB.some_ (i := k) (by omega)
      have hsl : ∀ W : World, (Instr.slice 39 (.slice (some ⟨b, off, none⟩) 64 c) (some (.int .i64 (4 * (k : Int)))) (some (.int .i64 (4 * (k : Int) + 4))) none).run Tryd.prog W = .ok (.slice (some ⟨b, off + 4 * k, none⟩) 4 (c - 4 * k)) W := fun W => slice_four W b off c k hlt hc
      go_wp2_with fail
      refine (rword_any b (off + 4 * k) 4 _ (fun j => f (4 * k + j)) wr (by omega) (fun j hj => ?_) (fun j hj => HF.out _ (by omega))).mono ?_
      · rw [Nat.add_assoc]
        exact (hB.2.2.2.cell (p := ⟨b, _, none⟩) hbl).trans (HR.out (4 * k + j) (by omega))
      rintro e w' ⟨rfl, q, rfl⟩
      go_wp2_with fail
      go_roundw
      case rel => exact ⟨k + 1, by omega, by go_num, (hB.drewN q).put hlt⟩
      case measure => simp [intOf]; omega
    · obtain rfl : k = 16 := by omega
      go_wp2_with fail
      rw [show ((16 : Nat) : Int) = 16 from rfl]
      go_loopw [7] (fun i wr2 => ∃ k : Nat, 16 ≤ k ∧ k ≤ 64 ∧ i = .int .i64 k ∧ RB w s f k wr2) (fun i _ => 64 - (intOf i).toNat)
      case atStart => exact ⟨16, by omega, by omega, rfl, hB⟩
      case round =>
        clear hB
        obtain ⟨k, hk0, hk64, rfl, hB⟩ := hrel
        by_cases hlt : k < 64
        · obtain ⟨⟨v, hcell⟩, hfz⟩ := hB.some_ (i := k) (by omega)
          have c15 := hB.at_ (i := k - 15) (by omega)
          have c2 := hB.at_ (i := k - 2) (by omega)
          have c16 := hB.at_ (i := k - 16) (by omega)
          have c7 := hB.at_ (i := k - 7) (by omega)
          have e15 : IntKind.i64.wrap ((k : Int) - 15) = (k : Int) - 15 := IntWalk.i64_in _ (by omega)
          have e2 : IntKind.i64.wrap ((k : Int) - 2) = (k : Int) - 2 := IntWalk.i64_in _ (by omega)
          have n15 : ((k : Int) - 15).toNat = k - 15 := by omega
          have n2 : ((k : Int) - 2).toNat = k - 2 := by omega
          have z15 : 0 ≤ (k : Int) - 15 := by omega
          have z2 : 0 ≤ (k : Int) - 2 := by omega
          have l15 : (k : Int) - 15 < 64 := by omega
          have l2 : (k : Int) - 2 < 64 := by omega
          go_wp2_with fail
          have e16 : IntKind.i64.wrap ((k : Int) - 16) = (k : Int) - 16 := IntWalk.i64_in _ (by omega)
          have e7 : IntKind.i64.wrap ((k : Int) - 7) = (k : Int) - 7 := IntWalk.i64_in _ (by omega)
          have n16 : ((k : Int) - 16).toNat = k - 16 := by omega
          have n7 : ((k : Int) - 7).toNat = k - 7 := by omega
          have z16 : 16 ≤ (k : Int) := by omega
          have z7 : 7 ≤ (k : Int) := by omega
          have zk : (k : Int) < 64 := by omega
          have l16 : (k : Int) - 16 < 64 := by omega
          have l7 : (k : Int) - 7 < 64 := by omega
          clear e15 e2 n15 n2 z15 z2 l15 l2 c15 c2
          have hB' := Lib.hid hB
          clear hB
          refine wp_region_quiet_tail 29 (by kernel_rfl) (by kernel_rfl) ?_
          simp only [List.take_succ_cons, List.take_zero, List.drop_succ_cons, List.drop_zero]
          repeat (go_big_quiet_step ((go_at_call 137; exact Calls.quiet_of (ror_lit _ _ (by decide) (by decide) _))))
          refine wpQuiet_nil ?_
          rintro _ ⟨q, rfl⟩
          have hcell' : (wr.drewN q).cell? ⟨w.heap.size + 1 + 1, k, none⟩ = some v := hcell
          have hfz' : (wr.drewN q).frozen? ⟨w.heap.size + 1 + 1, k, none⟩ = false := hfz
          clear hcell hfz
          go_wp2_with fail
          go_roundw
          case rel => exact ⟨k + 1, by omega, by omega, by go_num, (hB'.out.drewN q).next hk0 hlt _ rfl⟩
          case measure => simp [intOf]; omega
        · obtain rfl : k = 64 := by omega
          go_wp2_with fail
          refine (rnumbers_any wr).mono ?_
          rintro e w2 ⟨rfl, hb2⟩
          have hB2 := hB.below hb2
          clear hB hb2
          go_wp2_with (refine wpList_alloc_run rfl 156 rfl z64 (by as_aux_lemma => kernel_rfl) ?_; refine wpList_store_new rfl 156 _ _ rfl _ _ (kList.map (Value.int .u32)).toArray 156 rfl rfl a64Size rfl kOne ?_)
          have hK3 : Blk (w2.alloc (.cells (kList.map (Value.int .u32)).toArray 156)) w2.heap.size 156 (kList.map (Value.int .u32)).toArray := Blk.new _ _ _
          have hB3 := hB2.below ((Below.refl _ w2).alloc (Nat.le_refl _) (.cells (kList.map (Value.int .u32)).toArray 156))
          clear hB2
          generalize w2.alloc (.cells (kList.map (Value.int .u32)).toArray 156) = w3 at hK3 hB3 ⊢
          obtain ⟨g, hg⟩ : ∃ g, g = w2.heap.size := ⟨_, rfl⟩
          rw [← hg] at hK3 ⊢
          clear hg
          have c0 : w3.cell? ⟨w.heap.size, 0, none⟩ = some (.int .u32 s.a) := hB3.2.1.cell 0
          have c1 : w3.cell? ⟨w.heap.size, 1, none⟩ = some (.int .u32 s.b) := hB3.2.1.cell 1
          have c2 : w3.cell? ⟨w.heap.size, 2, none⟩ = some (.int .u32 s.c) := hB3.2.1.cell 2
          have c3 : w3.cell? ⟨w.heap.size, 3, none⟩ = some (.int .u32 s.d) := hB3.2.1.cell 3
          have c4 : w3.cell? ⟨w.heap.size, 4, none⟩ = some (.int .u32 s.e) := hB3.2.1.cell 4
          have c5 : w3.cell? ⟨w.heap.size, 5, none⟩ = some (.int .u32 s.f) := hB3.2.1.cell 5
          have c6 : w3.cell? ⟨w.heap.size, 6, none⟩ = some (.int .u32 s.g) := hB3.2.1.cell 6
          have c7 : w3.cell? ⟨w.heap.size, 7, none⟩ = some (.int .u32 s.h) := hB3.2.1.cell 7
          have HB3 := Lib.hid hB3
          clear hB3
          go_wp2_with fail
          go_quiet (fail)
          clear c0 c1 c2 c3 c4 c5 c6 c7
          go_wp2_with fail
          go_loopw [11, 12, 13, 14, 15, 16, 17, 18, 19] (fun a b c d e f2 g2 h i wr3 => ∃ k : Nat, k ≤ 64 ∧ i = .int .i64 k ∧ a = .int .u32 (rounds s f k).a ∧ b = .int .u32 (rounds s f k).b ∧ c = .int .u32 (rounds s f k).c ∧ d = .int .u32 (rounds s f k).d ∧ e = .int .u32 (rounds s f k).e ∧ f2 = .int .u32 (rounds s f k).f ∧ g2 = .int .u32 (rounds s f k).g ∧ h = .int .u32 (rounds s f k).h ∧ RB w s f 64 wr3 ∧ Blk wr3 g 156 (kList.map (Value.int .u32)).toArray) (fun _ _ _ _ _ _ _ _ i _ => 64 - (intOf i).toNat)
          case atStart => exact ⟨0, by omega, rfl, rfl, rfl, rfl, rfl, rfl, rfl, rfl, rfl, HB3.out.drewN nq, hK3.drewN nq⟩
          case round =>
            clear hK3
            obtain ⟨k, hk, rfl, rfl, rfl, rfl, rfl, rfl, rfl, rfl, rfl, hB, hK⟩ := hrel
            by_cases hlt : k < 64
            · obtain ⟨X, hX⟩ : ∃ X, X = rounds s f k := ⟨_, rfl⟩
              rw [← hX]
              have HX := Lib.hid hX
              clear hX
              have ck : wr.cell? ⟨g, k, none⟩ = some (.int .u32 (kAt k)) := (hK.cell k).trans (kcell k hlt)
              have cw := hB.at_ hlt
              have z0 : 0 ≤ (k : Int) := by omega
              have zk : (k : Int) < 64 := by omega
              have HB := Lib.hid hB
              have HK := Lib.hid hK
              clear hB hK
              go_wp2_with fail
              go_quiet ((go_at_call 137; exact Calls.quiet_of (ror_lit _ _ (by decide) (by decide) _)))
              go_wp2_with fail
              refine (ror_lit _ _ (by decide) (by decide) _).mono ?_
              rintro e w4 ⟨rfl, q1, rfl⟩
              go_wp2_with fail
              refine (ror_lit _ _ (by decide) (by decide) _).mono ?_
              rintro e w4 ⟨rfl, q2, rfl⟩
              go_wp2_with fail
              refine (ror_lit _ _ (by decide) (by decide) _).mono ?_
              rintro e w4 ⟨rfl, q3, rfl⟩
              go_wp2_with fail
              go_roundw
              case rel =>
                have e1 := step_both X (kAt k) (sched f k)
                have e2 := step_both' X (kAt k) (sched f k)
                refine ⟨k + 1, by omega, by go_num, ?_, ?_, ?_, ?_, ?_, ?_, ?_, ?_, HB.out.drewN _, HK.out.drewN _⟩
                all_goals rw [rounds, ← HX.out]
                · exact congrArg (Value.int .u32) e1
                · exact rfl
                · exact rfl
                · exact rfl
                · exact congrArg (Value.int .u32) e2
                · exact rfl
                · exact rfl
                · exact rfl
              case measure => simp [intOf]; omega
            · obtain rfl : k = 64 := by omega
              obtain ⟨X, hX⟩ : ∃ X, X = rounds s f 64 := ⟨_, rfl⟩
              rw [← hX]
              have HX := Lib.hid hX
              have HB := Lib.hid hB
              have c0 : wr.cell? ⟨w.heap.size, 0, none⟩ = some (.int .u32 s.a) := hB.2.1.cell 0
              have c1 : wr.cell? ⟨w.heap.size, 1, none⟩ = some (.int .u32 s.b) := hB.2.1.cell 1
              have c2 : wr.cell? ⟨w.heap.size, 2, none⟩ = some (.int .u32 s.c) := hB.2.1.cell 2
              have c3 : wr.cell? ⟨w.heap.size, 3, none⟩ = some (.int .u32 s.d) := hB.2.1.cell 3
              have c4 : wr.cell? ⟨w.heap.size, 4, none⟩ = some (.int .u32 s.e) := hB.2.1.cell 4
              have c5 : wr.cell? ⟨w.heap.size, 5, none⟩ = some (.int .u32 s.f) := hB.2.1.cell 5
              have c6 : wr.cell? ⟨w.heap.size, 6, none⟩ = some (.int .u32 s.g) := hB.2.1.cell 6
              have c7 : wr.cell? ⟨w.heap.size, 7, none⟩ = some (.int .u32 s.h) := hB.2.1.cell 7
              have hZ := hB.2.2.1
              have d0 : wr.cell? ⟨w.heap.size + 1, 0, none⟩ = some (.int .u32 0) := hZ.cell 0
              have f0 := hZ.frozen 0
              have d1 : wr.cell? ⟨w.heap.size + 1, 1, none⟩ = some (.int .u32 0) := hZ.cell 1
              have f1 := hZ.frozen 1
              have d2 : wr.cell? ⟨w.heap.size + 1, 2, none⟩ = some (.int .u32 0) := hZ.cell 2
              have f2 := hZ.frozen 2
              have d3 : wr.cell? ⟨w.heap.size + 1, 3, none⟩ = some (.int .u32 0) := hZ.cell 3
              have f3 := hZ.frozen 3
              have d4 : wr.cell? ⟨w.heap.size + 1, 4, none⟩ = some (.int .u32 0) := hZ.cell 4
              have f4 := hZ.frozen 4
              have d5 : wr.cell? ⟨w.heap.size + 1, 5, none⟩ = some (.int .u32 0) := hZ.cell 5
              have f5 := hZ.frozen 5
              have d6 : wr.cell? ⟨w.heap.size + 1, 6, none⟩ = some (.int .u32 0) := hZ.cell 6
              have f6 := hZ.frozen 6
              have d7 : wr.cell? ⟨w.heap.size + 1, 7, none⟩ = some (.int .u32 0) := hZ.cell 7
              have f7 := hZ.frozen 7
              have hD6 := ((((((((hZ.set 0 (.int .u32 ((s.a + X.a) % 4294967296))).set 1 (.int .u32 ((s.b + X.b) % 4294967296))).set 2 (.int .u32 ((s.c + X.c) % 4294967296))).set 3 (.int .u32 ((s.d + X.d) % 4294967296))).set 4 (.int .u32 ((s.e + X.e) % 4294967296))).set 5 (.int .u32 ((s.f + X.f) % 4294967296))).set 6 (.int .u32 ((s.g + X.g) % 4294967296))).set 7 (.int .u32 ((s.h + X.h) % 4294967296)))
              have HZ := Lib.hid hD6
              clear hX hB hK hZ hD6
              go_wp2_with fail
              have hD6 := HZ.out
              refine bodyPost_ret (results_cell_row rfl _ _ (w.heap.size + 1) 139 _ (0, 0) _ rfl hD6 Tryd.underlying139 rfl a8Size) rfl ?_
              refine ⟨?_, ((((((((HB.out.2.2.2.setCell (p := ⟨w.heap.size + 1, 0, none⟩) (Nat.le_succ _) _).setCell (p := ⟨w.heap.size + 1, 1, none⟩) (Nat.le_succ _) _).setCell (p := ⟨w.heap.size + 1, 2, none⟩) (Nat.le_succ _) _).setCell (p := ⟨w.heap.size + 1, 3, none⟩) (Nat.le_succ _) _).setCell (p := ⟨w.heap.size + 1, 4, none⟩) (Nat.le_succ _) _).setCell (p := ⟨w.heap.size + 1, 5, none⟩) (Nat.le_succ _) _).setCell (p := ⟨w.heap.size + 1, 6, none⟩) (Nat.le_succ _) _).setCell (p := ⟨w.heap.size + 1, 7, none⟩) (Nat.le_succ _) _)⟩
              rw [St.block, ← HX.out]
              rfl
end Go.Proofs.YtibnikokgbfcdaaDoor

/- Several texts in one: N0, N1, N2. -/
import Derived.Test.YtkkcbkfpaoldmaaGreatDoorM01
import Derived.Test.YtkkcbkfpaoldmaaGreatDoorSeq
import Derived.IntWalk
/- Rows of ints of the call's own, written in place; digits made, cut short. -/
namespace Go.Proofs.YtkkcbkfpaoldmaaGreatDoor
open Go Go.RowKit

theorem icells_zeros (n : Nat) : icells (List.replicate n 0) = List.replicate n (Value.int .i64 0) := by simp [icells]
theorem madeCells_int (n : Nat) : (madeCells (Value.int .i64 0).cells (n * 1)).toList = icells (List.replicate n 0) := by
  rw [icells_zeros, Nat.mul_one]
  apply List.ext_getElem?
  intro k
  by_cases h : k < n
  · simp [madeCells, Value.cells, h, Nat.mod_one]
  · simp [madeCells, h]
section
variable {ops : Array Oper} {rest : List Oper} {o : Oper} {a : Act} {Q : Exit → Act → World → Prop}
theorem make_dig (hg : o.guard = none) (l : Operand) (hop : o.op = Op.makeSlice 131 l l) (base : Nat) {w : World} (n : Nat) (hl : a.eval l = .int .i64 n) (hn : n ≤ 1048576) (hb : base ≤ w.heap.size)
    (hK : ∀ w', IOwn w' base (.slice (some ⟨w.heap.size, 0, none⟩) n n) (List.replicate n 0) → w.grownBy w' none → wpList Tryz.prog ops Q rest (a.put o.dst (.slice (some ⟨w.heap.size, 0, none⟩) n n)) w') :
    wpList Tryz.prog ops Q (o :: rest) a w :=
  wpList_make_full w hg l l 131 hop base 3 iInfo (.int .i64 0) 1 Tryz.underlying131 iInfo_eq iInfo_zero iInfo_size .i64 .i64 n n n hl hl rfl rfl (by rw [iInfo_bytes]; omega) (by simp only [maxLen]; omega) hb
    fun w' h1 h2 => hK w' (by
      show World.ownsRow w' base 3 1 _ (List.replicate n (0 : Int)).length (icells (List.replicate n 0))
      rw [List.length_replicate, ← madeCells_int]
      exact h1) h2
end

theorem IOwn.set {w : World} {base g c n : Nat} {l : List Int} (h : IOwn w base (.slice (some ⟨g, 0, none⟩) n c) l) (hn : l.length = n) (j : Nat) (x : Int) :
    IOwn (w.setCell ⟨g, j, none⟩ (.int .i64 x)) base (.slice (some ⟨g, 0, none⟩) n c) (l.set j x) ∧ Grew w (w.setCell ⟨g, j, none⟩ (.int .i64 x)) (.slice (some ⟨g, 0, none⟩) n c) (.slice (some ⟨g, 0, none⟩) n c) := by
  subst hn
  obtain ⟨h1, g1⟩ := World.ownsRow.stored h j (.int .i64 x)
  refine ⟨?_, g1, .inl rfl⟩
  show World.ownsRow _ base 3 1 _ (l.set j x).length (icells (l.set j x))
  rw [List.length_set, icells_set]
  exact h1
/-- What lies at base or later, and is lied in, leaves everything below as it is. -/
theorem IOwn.belowSet {w wr : World} {base B g c n : Nat} {l : List Int} {v : Value} (h : IOwn wr base (.slice (some ⟨g, 0, none⟩) n c) l) (hB : Below B w wr) (hbase : B ≤ base) {j : Nat} : Below B w (wr.setCell ⟨g, j, none⟩ v) :=
  hB.setCell (p := ⟨g, j, none⟩) (by have := (World.ownsRow.lt h g rfl).1; show B ≤ g; omega) v
theorem IOwn.cellAt {w : World} {base n c g : Nat} {l : List Int} (h : IOwn w base (.slice (some ⟨g, 0, none⟩) n c) l) (hn : l.length = n) {k : Nat} (hk : k < n) : w.cell? ⟨g, k, none⟩ = some (.int .i64 (l.getD k 0)) := by
  subst hn
  exact (World.ownsRow.cellAt h k (by omega)).trans (icells_get l k hk)
theorem IOwn.rd {w : World} {base : Nat} {A : Option Addr} {n c : Nat} {l : List Int} (h : IOwn w base (.slice A n c) l) (hn : l.length = n) : Rd w w.heap.size A n (fun k => .int .i64 (l.getD k 0)) := by
  subst hn
  obtain ⟨A', c', e, _, _, hR⟩ := h.shape
  simp only [Value.slice.injEq] at e
  rw [e.1]
  exact hR
theorem IOwn.frozenAt {w : World} {base g c n : Nat} {l : List Int} (h : IOwn w base (.slice (some ⟨g, 0, none⟩) n c) l) (hn : l.length = n) (k : Nat) : w.frozen? ⟨g, k, none⟩ = false := by
  subst hn
  exact World.ownsRow.frozenAt h k

/-- 'm[:i]' of digits. -/
theorem slice_digs (W : World) (A : Option Addr) (i j c : Nat) (h : i ≤ c) (h2 : A = none → c = 0) (hs : ∀ a, A = some a → a.spot = none) : (Instr.slice 131 (.slice A j c) none (some (.int .i64 (i : Int))) none).run Tryz.prog W = .ok (.slice A i c) W := by
  cases A with
  | none =>
    obtain rfl := h2 rfl
    obtain rfl : i = 0 := by omega
    simp [Instr.slice, run_underlying Tryz.underlying131, Instr.sliceBounds, Instr.sliceBound, asIntOf]
  | some a =>
    obtain ⟨b, o, s⟩ := a
    obtain rfl : s = none := hs _ rfl
    simp [Instr.slice, run_underlying Tryz.underlying131, Instr.sliceBounds, Instr.sliceBound, asIntOf, h, Addr.add_mid]
end Go.Proofs.YtkkcbkfpaoldmaaGreatDoor

/- Digits in memory; walks: nat.trim, at. -/
namespace Go.Proofs.YtkkcbkfpaoldmaaGreatDoor
open Go Go.RowKit

/-- Digits from address A on. -/
def MRd (w : World) (B : Nat) (A : Option Addr) (l : List Int) : Prop := Rd w B A l.length (fun k => .int .i64 (dg l k))
/-- How many digits there are without the zeros at the end of the first n. -/
def tlen (l : List Int) : Nat → Nat
  | 0 => 0
  | n + 1 => if dg l n = 0 then tlen l n else n + 1
theorem tlen_le (l : List Int) : ∀ n, tlen l n ≤ n
  | 0 => Nat.le_refl _
  | n + 1 => by
    rw [tlen]
    split
    · have := tlen_le l n; omega
    · omega
theorem tlen_zero (l : List Int) : ∀ n i, tlen l n ≤ i → i < n → dg l i = 0
  | 0, i, _, h => by omega
  | n + 1, i, h1, h2 => by
    rw [tlen] at h1
    split at h1
    · rename_i h3
      rcases Nat.lt_or_ge i n with h4 | h4
      · exact tlen_zero l n i h1 h4
      · obtain rfl : i = n := by omega
        exact h3
    · omega
theorem tlen_top (l : List Int) : ∀ n, 0 < tlen l n → dg l (tlen l n - 1) ≠ 0
  | 0, h => by simp [tlen] at h
  | n + 1, h => by
    rw [tlen] at h ⊢
    split
    · rename_i h3
      rw [if_pos h3] at h
      exact tlen_top l n h
    · rename_i h3
      rw [Nat.add_sub_cancel]
      exact h3
def trimmed (l : List Int) : List Int := l.take (tlen l l.length)
theorem trimmed_len (l : List Int) : (trimmed l).length = tlen l l.length := by
  rw [trimmed, List.length_take]
  have := tlen_le l l.length
  omega
theorem trimmed_val (l : List Int) : valL (trimmed l) = valL l := valL_take (tlen_le _ _) (fun i h1 h2 => tlen_zero l _ i h1 h2)
theorem trimmed_trim (l : List Int) : TrimL (trimmed l) := fun h => by
  rw [trimmed_len] at h ⊢
  rw [trimmed, dg_take (by omega)]
  exact tlen_top l _ h
theorem trimmed_dig {l : List Int} (h : DigL l) : DigL (trimmed l) := h.take _
theorem MRd.below {w w' : World} {B : Nat} {A : Option Addr} {l : List Int} (h : MRd w B A l) (hb : Below B w w') : MRd w' B A l := Rd.below h hb
theorem MRd.more {w : World} {B B' : Nat} {A : Option Addr} {l : List Int} (h : MRd w B A l) (hB : B ≤ B') : MRd w B' A l := Rd.more h hB
theorem MRd.trimmed {w : World} {B : Nat} {A : Option Addr} {l : List Int} (h : MRd w B A l) : MRd w B A (trimmed l) := fun hn => by
  have hl := trimmed_len l
  have hle := tlen_le l l.length
  obtain ⟨b, off, e, hb, hc⟩ := h (by omega)
  refine ⟨b, off, e, hb, fun k hk => ?_⟩
  refine (hc k (by omega)).trans ?_
  show some (Value.int .i64 (dg l k)) = some (Value.int .i64 (dg (l.take (tlen l l.length)) k))
  rw [dg_take (by omega)]
set_option maxRecDepth 100000 in
set_option linter.unusedSimpArgs false in
set_option linter.unusedVariables false in
set_option maxHeartbeats 4000000 in
theorem trim_any (A : Option Addr) (l : List Int) (n c : Nat) (hn : n = l.length) (hc : n ≤ c) (hc2 : c ≤ 9223372036854775807) (hn2 : n ≤ 4611686018427387903) (w : World) (hR : MRd w w.heap.size A l) : Calls Tryz.prog 104 #[.slice A n c] w (Ret (.slice A (tlen l n) c) w) := by
  have HR := Lib.hid hR
  have HN := Lib.hid hn
  clear hR hn
  go_enter Tryz.func104, Tryz.ntmps104
  go_wp2_with fail
  go_loopw [3] (fun i wr => ∃ k : Nat, k ≤ n ∧ i = .int .i64 k ∧ tlen l k = tlen l n ∧ Below w.heap.size w wr) (fun i _ => (intOf i).toNat)
  case atStart => exact ⟨n, Nat.le_refl _, rfl, rfl, Below.refl _ _⟩
  case round =>
    obtain ⟨k, hk, rfl, ht, hB⟩ := hrel
    have HT := Lib.hid ht
    clear ht
    rcases Nat.eq_zero_or_pos k with rfl | h0
    · have g0 : decide ((0 : Int) < ((0 : Nat) : Int)) = false := by decide
      go_wp2_with (refine wpList_skip (by rfl) ?_)
      go_ret
      exact ⟨by rw [← HT.out]; rfl, hB⟩
    · obtain ⟨s, rfl⟩ : ∃ s, k = s + 1 := ⟨k - 1, by omega⟩
      have g0 : decide ((0 : Int) < ((s + 1 : Nat) : Int)) = true := decide_eq_true (by omega)
      have hs1 : ((s + 1 : Nat) : Int) - 1 = (s : Int) := by omega
      have hs2 : IntKind.i64.wrap (s : Int) = (s : Int) := Go.IntWalk.i64_in _ (by omega)
      obtain ⟨b, off, rfl, hbl, hcell⟩ := (HR.out.below hB).at_ (k := s) (by rw [← HN.out]; omega)
      obtain ⟨x, hx⟩ : ∃ x, x = dg l s := ⟨_, rfl⟩
      rw [← hx] at hcell
      have HX := Lib.hid hx
      clear hx
      by_cases hx0 : x = 0
      · have g1 : (x == 0) = true := beq_iff_eq.2 hx0
        have HT2 := Lib.hid (show tlen l s = tlen l n by rw [← HT.out, tlen, if_pos (by rw [← HX.out]; exact hx0)])
        clear hx0
        go_wp2_with fail
        go_roundw
        case rel => exact ⟨s, by omega, by go_num, HT2.out, hB⟩
        case measure => simp [intOf]
      · have g1 : (x == 0) = false := beq_eq_false_iff_ne.2 hx0
        have HT2 := Lib.hid (show tlen l n = s + 1 by rw [← HT.out, tlen, if_neg (by rw [← HX.out]; exact hx0)])
        clear hx0
        go_wp2_with fail
        go_ret
        exact ⟨by rw [HT2.out]; rfl, hB⟩
end Go.Proofs.YtkkcbkfpaoldmaaGreatDoor

/- Bits of ints: the mask of a digit; a digit laid behind others. -/
namespace Go.Proofs.YtkkcbkfpaoldmaaGreatDoor
open Go Go.RowKit

theorem and_mask (s : Int) : bits .and .i64 s 1073741823 = s % 1073741824 := by
  show IntKind.i64.wrap ((BitVec.ofInt 64 s &&& BitVec.ofInt 64 1073741823).toNat : Int) = _
  rw [BitVec.toNat_and, BitVec.toNat_ofInt, BitVec.toNat_ofInt]
  have e2 : ((1073741823 : Int) % ((2 ^ 64 : Nat) : Int)).toNat = 2 ^ 30 - 1 := by decide
  rw [e2, Nat.and_two_pow_sub_one_eq_mod]
  have e3 : (((s % ((2 ^ 64 : Nat) : Int)).toNat % 2 ^ 30 : Nat) : Int) = s % 1073741824 := by
    have : ((2 ^ 64 : Nat) : Int) = 18446744073709551616 := by decide
    rw [this, show (2 : Nat) ^ 30 = 1073741824 by decide]
    omega
  rw [e3]
  exact Go.IntWalk.i64_in _ (by omega)
theorem or_low (r x : Int) (hr : 0 ≤ r ∧ r < 8589934592) (hx : 0 ≤ x ∧ x < 1073741824) : bits .or .i64 (r * 1073741824) x = r * 1073741824 + x := by
  obtain ⟨a, rfl⟩ : ∃ a : Nat, r = a := ⟨r.toNat, by omega⟩
  obtain ⟨b, rfl⟩ : ∃ b : Nat, x = b := ⟨x.toNat, by omega⟩
  show IntKind.i64.wrap ((BitVec.ofInt 64 ((a : Int) * 1073741824) ||| BitVec.ofInt 64 (b : Int)).toNat : Int) = _
  rw [BitVec.toNat_or, BitVec.toNat_ofInt, BitVec.toNat_ofInt]
  have e1 : (((a : Int) * 1073741824) % ((2 ^ 64 : Nat) : Int)).toNat = 2 ^ 30 * a := by
    have : ((2 ^ 64 : Nat) : Int) = 18446744073709551616 := by decide
    rw [this, show (2 : Nat) ^ 30 = 1073741824 by decide]
    omega
  have e2 : ((b : Int) % ((2 ^ 64 : Nat) : Int)).toNat = b := by
    have : ((2 ^ 64 : Nat) : Int) = 18446744073709551616 := by decide
    rw [this]
    omega
  rw [e1, e2, ← Nat.two_pow_add_eq_or_of_lt (by omega : b < 2 ^ 30)]
  rw [show ((2 ^ 30 * a + b : Nat) : Int) = (a : Int) * 1073741824 + b by
    rw [show (2 : Nat) ^ 30 = 1073741824 by decide]
    omega]
  exact Go.IntWalk.i64_in _ (by omega)
end Go.Proofs.YtkkcbkfpaoldmaaGreatDoor

/- Walks: codec.numeral, codec.unsigned. -/
import Derived.Test.YtibnikokgbfcdaaDoorCode
import Derived.Test.YtibnikokgbfcdaaDoorOps
namespace Go.Proofs.YtibnikokgbfcdaaDoor
open Go.RowKit

/-- The bytes l have come onto the slice v of the call's own. -/
def Onto (base : Nat) (v : Value) (n : Nat) (xs : List Value) (l : List UInt8) (w : World) (e : Ending) (w' : World) : Prop :=
  ∃ v', e = .returned v' ∧ w'.ownsRow base 5 1 v' (n + l.length) (xs ++ bcells l) ∧ Grew w w' v v'

set_option maxRecDepth 100000 in
set_option maxHeartbeats 1000000 in
theorem numeral_any (base : Nat) (v : Value) (n : Nat) (xs : List Value) (u : Nat) (w : World) (hown : w.ownsRow base 5 1 v n xs) (hbase : base ≤ w.heap.size) (hu : u < 18446744073709551616) (hn : n + 10 ≤ 140737488355328) :
    Calls Tryd.prog 123 #[v, .int .u64 u] w (Onto base v n xs (numB u) w) := by
  have hlen := numB_len10 u hu
  go_enter Tryd.func123, Tryd.ntmps123
  go_wp2_with fail
  go_loopw [0, 1] (fun b x wr => ∃ (u' : Nat) (done : List UInt8), numB u = done ++ numB u' ∧ u' < 18446744073709551616 ∧ x = .int .u64 u' ∧ wr.ownsRow base 5 1 b (n + done.length) (xs ++ bcells done) ∧ Grew w wr v b) (fun _ x _ => (intOf x).toNat)
  case atStart => exact ⟨u, [], rfl, hu, rfl, by simpa [bcells] using hown, Grew.refl _ _⟩
  case round =>
    obtain ⟨u', done, hd, hu', rfl, hown', hg⟩ := hrel
    have HD := Lib.hid hd
    have hdl : done.length ≤ 9 := by
      have h1 := congrArg List.length hd
      rw [List.length_append] at h1
      have h2 : 0 < (numB u').length := by
        rcases Nat.lt_or_ge u' 128 with h | h
        · rw [numB_small u' h]; simp
        · rw [numB_step u' h]; simp
      omega
    have hB : base ≤ wr.heap.size := Nat.le_trans hbase hg.1.size
    have HU := Lib.hid hu'
    clear hd hown hlen hu hu'
    by_cases hlt : u' < 128
    · go_wp2_with (at_builtin; refine app_byte rfl _ _ rfl base wr u0 _ _ rfl hown' (UInt8.ofNat u') _ (by first | exact u8_mod u' hlt | exact u8_id u' hlt) _ rfl (by omega) hB ?_; intro v2 w2 hown2 hg2)
      go_ret
      refine ⟨_, rfl, ?_, hg.trans hg2⟩
      rw [HD.out, numB_small u' hlt, bcells_append, List.length_append, ← List.append_assoc]
      exact hown2
    · have hge : 128 ≤ u' := by omega
      go_wp2_with (at_builtin; refine app_byte rfl _ _ rfl base wr u0 _ _ rfl hown' (UInt8.ofNat (u' % 128 + 128)) _ (or128 u') _ rfl (by omega) hB ?_; intro v2 w2 hown2 hg2)
      go_roundw
      case rel =>
        have hu' := HU.out
        refine ⟨u' / 128, done ++ [UInt8.ofNat (u' % 128 + 128)], ?_, by omega, rfl, ?_, hg.trans hg2⟩
        · rw [HD.out, numB_step u' hge]; simp
        · rw [bcells_append, List.length_append, ← List.append_assoc]
          exact hown2
      case measure => simp [intOf]; omega

theorem xor_zero (a : Int) (h0 : 0 ≤ a) (h1 : a < 9223372036854775808) : bits .xor .u64 a 0 = a := by
  show IntKind.u64.wrap ((BitVec.ofInt 64 a ^^^ BitVec.ofInt 64 0).toNat : Int) = a
  have e : BitVec.ofInt 64 a ^^^ BitVec.ofInt 64 0 = BitVec.ofInt 64 a := by
    rw [show BitVec.ofInt 64 0 = 0#64 from rfl, BitVec.xor_zero]
  rw [e, BitVec.toNat_ofInt]
  rw [IntKind.wrap_u64]
  omega
set_option maxRecDepth 100000 in
set_option maxHeartbeats 1000000 in
theorem unsigned_any (n : Nat) (w : World) (hn : n ≤ 4611686018427387000) :
    Calls Tryd.prog 124 #[.int .i64 n] w fun e w' => e = .returned (.int .u64 ((2 * n : Nat) : Int)) ∧ w = w' := by
  have hx := Lib.hid (xor_zero ((n : Int) * 2) (by omega) (by omega))
  have hd : (n : Int) / 9223372036854775808 = 0 := by omega
  go_enter Tryd.func124, Tryd.ntmps124
  go_wp2
  go_ret
  refine ⟨?_, rfl⟩
  show Ending.returned (.int .u64 (bits .xor .u64 ((n : Int) * 2) 0)) = _
  rw [hx.out, show ((2 * n : Nat) : Int) = (n : Int) * 2 from by omega]
end Go.Proofs.YtibnikokgbfcdaaDoor

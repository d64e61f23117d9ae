/- Walks: podiumref01.numeral, unsigned, Formed, Depth. -/
import Derived.Test.YtibnikokgbfcdaaDoorW11
import Derived.Test.YtibnikokgbfcdaaDoorW6
namespace Go.Proofs.YtibnikokgbfcdaaDoor
open Go.RowKit

theorem own_bytes_new (w : World) (base : Nat) (hb : base ≤ w.heap.size) (l : List UInt8) (hl : l.length ≤ maxLen) :
    (w.alloc (.cells (bcells l).toArray 5)).ownsRow base 5 1 (.slice (some ⟨w.heap.size, 0, none⟩) l.length l.length) l.length (bcells l) :=
  ⟨by rw [bcells_len]; omega, .inr ⟨w.heap.size, l.length, _, rfl, hb, heap_alloc_new w _, Nat.le_refl _, hl, by simp [bcells_len], by rw [Nat.mul_one]; exact List.take_of_length_le (by rw [bcells_len]; exact Nat.le_refl _)⟩⟩
theorem own_byte_new (w : World) (base : Nat) (hb : base ≤ w.heap.size) (z : Int) (c : UInt8) (hz : z = (c.toNat : Int)) :
    (w.alloc (.cells #[.int .u8 z] 5)).ownsRow base 5 1 (.slice (some ⟨w.heap.size, 0, none⟩) 1 1) 1 [B8 c] := by
  subst hz
  exact own_bytes_new w base hb [c] (by simp only [maxLen, List.length_cons, List.length_nil]; omega)
theorem own_slice {w : World} {base : Nat} {v : Value} {n : Nat} {l : List UInt8} (h : w.ownsRow base 5 1 v n (bcells l)) : n = l.length ∧ ∃ A c, v = .slice A l.length c ∧ l.length ≤ c ∧ c ≤ 9223372036854775807 ∧ RdB w w.heap.size A l := by
  have hn : n = l.length := by have := h.1; rw [bcells_len] at this; omega
  subst hn
  refine ⟨rfl, ?_⟩
  rcases h.2 with ⟨rfl, h0⟩ | ⟨g, cap, cur, rfl, _, _, h1, h2, _⟩
  · refine ⟨none, 0, by rw [h0], by omega, by omega, ?_⟩
    have : l = [] := List.eq_nil_of_length_eq_zero h0
    subst this
    exact RdB.nil
  · exact ⟨_, cap, rfl, h1, by simp only [maxLen] at h2; omega, (RdB.of_own h).2⟩

theorem own_below {w w' : World} {base : Nat} {e : TypeId} {size : Nat} {v : Value} {n : Nat} {xs : List Value} (h : w.ownsRow base e size v n xs) (hb : Below w.heap.size w w') : w'.ownsRow base e size v n xs :=
  World.ownsRow.kept h (row := none) ⟨hb.os, hb.tape, hb.output, hb.size, fun i hi _ => hb.block i hi⟩ (by cases v.ownBlock <;> simp)
set_option maxRecDepth 100000 in
set_option maxHeartbeats 1000000 in
theorem rnumeral_any (k : Nat) : ∀ (u : Nat), u < 128 ^ k → 0 < k → u < 18446744073709551616 → ∀ w : World, Calls Tryd.prog 129 #[.int .u64 u] w (OwnPost (numB u) w) := by
  induction k with
  | zero => intro u _ h; omega
  | succ k ih =>
    intro u hu _ h64 w
    by_cases hlt : u < 128
    · clear hu ih
      go_enter Tryd.func129, Tryd.ntmps129
      go_wp2_with fail
      go_ret
      refine ⟨_, rfl, ?_, (Below.refl _ w).alloc (Nat.le_refl _) _⟩
      rw [numB_small u hlt]
      exact own_byte_new w _ (Nat.le_refl _) _ (UInt8.ofNat u) (by first | exact u8_mod u hlt | exact u8_id u hlt)
    · have h1 : u / 128 < 128 ^ k := by
        rw [Nat.div_lt_iff_lt_mul (by decide)]
        rw [Nat.pow_succ] at hu
        exact hu
      have h2 : 0 < k := by
        rcases Nat.eq_zero_or_pos k with h0 | h0
        · subst h0; simp at h1; omega
        · exact h0
      have hq0 : ((u / 128 : Nat) : Int) = (u : Int) / 128 := by omega
      have IH := Lib.hid (ih (u / 128) h1 h2 (by omega))
      rw [hq0] at IH
      have hge : 128 ≤ u := by omega
      have hm : (u : Int).tmod 128 = ((u % 128 : Nat) : Int) := by rw [Int.tmod_eq_emod_of_nonneg (by omega)]; omega
      have hq : (u : Int).tdiv 128 = ((u / 128 : Nat) : Int) := by rw [Int.tdiv_eq_ediv_of_nonneg (by omega)]; omega
      have hlen := numB_len10 (u / 128) (by omega)
      clear hu ih h1 h2 hlt
      go_enter Tryd.func129, Tryd.ntmps129
      go_wp2_with fail
      have hB0 : Below w.heap.size w (w.alloc (.cells #[.int .u8 ((u : Int) % 128 + 128)] 5)) := (Below.refl _ w).alloc (Nat.le_refl _) _
      have hO0 := own_byte_new w w.heap.size (Nat.le_refl _) ((u : Int) % 128 + 128) (UInt8.ofNat (u % 128 + 128)) (by rw [UInt8.toNat_ofNat_of_lt' (by omega : u % 128 + 128 < 256)]; omega)
      generalize w.alloc (.cells #[.int .u8 ((u : Int) % 128 + 128)] 5) = w1 at hB0 hO0 ⊢
      refine (IH.out w1).mono ?_
      rintro e w2 ⟨v2, rfl, hown2, hb2⟩
      have hO2 := own_below hO0 hb2
      have hB2 := hB0.trans (hb2.mono hB0.size)
      obtain ⟨-, A2, c2, rfl, hc2, hc2', hr2⟩ := own_slice hown2
      clear hB0 hO0 hb2 hown2
      go_wp2_with (at_builtin; refine app_bytes _ rfl _ _ 39 rfl w.heap.size _ 1 _ rfl hO2 _ _ (bcells (numB (u / 128))) rfl (src_bytes _ hr2) (by omega) hB2.size ?_; intro v3 w3 hown3 hg3)
      go_ret
      refine ⟨v3, rfl, ?_, hB2.trans (hg3.below hB2.size fun k hk => (hO2.lt k hk).1)⟩
      rw [numB_step u hge, List.length_cons, Nat.add_comm _ 1, bcells_cons]
      exact hown3

set_option maxRecDepth 100000 in
set_option maxHeartbeats 1000000 in
theorem runsigned_any (n : Nat) (w : World) (hn : n ≤ 4611686018427387000) :
    Calls Tryd.prog 130 #[.int .i64 n] w fun e w' => e = .returned (.int .u64 ((2 * n : Nat) : Int)) ∧ w = w' := by
  go_enter Tryd.func130, Tryd.ntmps130
  go_wp2
  go_ret
  refine ⟨?_, rfl⟩
  first | rfl | (congr 2; omega)

def RForm (x : V4) (w : World) : Prop := ∀ w', Below w.heap.size w w' → Calls Tryd.prog 127 #[x.agg] w' (Ret (.bool true) w')
def DeepPost (d : Nat) (w : World) (e : Ending) (w' : World) : Prop := (∃ d' : Nat, d' ≤ d ∧ e = .returned (.int .i64 d')) ∧ Below w.heap.size w w'
def RDeep (x : V4) (d : Nat) (w : World) : Prop := ∀ w', Below w.heap.size w w' → Calls Tryd.prog 128 #[x.agg] w' (DeepPost d w')

set_option maxRecDepth 100000 in
set_option maxHeartbeats 1000000 in
theorem rformed_int (k : Nat) (w : World) : Calls Tryd.prog 127 #[.agg #[.int .i64 1, .int .i64 k, .string ⟨#[]⟩, .slice none 0 0]] w (Ret (.bool true) w) := by
  go_enter Tryd.func127, Tryd.ntmps127
  go_wp2
  all_goals
    go_ret
    exact ⟨rfl, (Below.refl _ w).alloc (Nat.le_refl _) _⟩
set_option maxRecDepth 100000 in
set_option maxHeartbeats 1000000 in
theorem rformed_text (s : ByteArray) (w : World) : Calls Tryd.prog 127 #[.agg #[.int .i64 2, .int .i64 0, .string s, .slice none 0 0]] w (Ret (.bool true) w) := by
  go_enter Tryd.func127, Tryd.ntmps127
  go_wp2
  all_goals
    go_ret
    exact ⟨rfl, (Below.refl _ w).alloc (Nat.le_refl _) _⟩
set_option maxRecDepth 100000 in
set_option maxHeartbeats 1000000 in
theorem rdepth_leaf (k : Nat) (hk : k ≠ 3) (n s l : Value) (w : World) : Calls Tryd.prog 128 #[.agg #[.int .i64 k, n, s, l]] w (DeepPost 0 w) := by
  have hk' : ¬ ((k : Int) = 3) := by omega
  go_enter Tryd.func128, Tryd.ntmps128
  go_wp2
  all_goals
    go_ret
    exact ⟨⟨0, Nat.le_refl _, rfl⟩, (Below.refl _ w).alloc (Nat.le_refl _) _⟩

set_option maxRecDepth 100000 in
set_option maxHeartbeats 2000000 in
theorem rformed_list (A : Option Addr) (l : List V4) (c : Nat) (w : World) (hE : Elems w w.heap.size A l) (hl : l.length ≤ c) (hc : c ≤ 9223372036854775807)
    (h1 : ∀ x ∈ l, x.n.oneCell' = true ∧ x.s.oneCell' = true ∧ x.l.oneCell' = true) (hf : ∀ x ∈ l, RForm x w) :
    Calls Tryd.prog 127 #[(V4.list A l.length c).agg] w (Ret (.bool true) w) := by
  show Calls Tryd.prog 127 #[.agg #[.int .i64 3, .int .i64 0, .string ⟨#[]⟩, .slice A l.length c]] w (Ret (.bool true) w)
  obtain ⟨m, hm⟩ : ∃ m, m = l.length := ⟨_, rfl⟩
  rw [← hm] at hl ⊢
  have HM := Lib.hid hm
  have HF := Lib.hid hf
  have H1 := Lib.hid h1
  have HE := Lib.hid hE
  clear hm hf h1 hE
  go_enter Tryd.func127, Tryd.ntmps127
  go_wp2_with fail
  have hX0 : Blk (w.alloc (.cells #[.int .i64 3, .int .i64 0, .string ⟨#[]⟩, .slice A m c] 93)) w.heap.size 93 #[.int .i64 3, .int .i64 0, .string ⟨#[]⟩, .slice A m c] := Blk.new _ _ _
  have hB0 : Below w.heap.size w (w.alloc (.cells #[.int .i64 3, .int .i64 0, .string ⟨#[]⟩, .slice A m c] 93)) := (Below.refl _ w).alloc (Nat.le_refl _) _
  go_loopw [3] (fun i wr => ∃ j : Nat, j ≤ m ∧ i = .int .i64 j ∧ Blk wr w.heap.size 93 #[.int .i64 3, .int .i64 0, .string ⟨#[]⟩, .slice A m c] ∧ Below w.heap.size w wr) (fun i _ => m - (intOf i).toNat)
  case atStart => exact ⟨0, by omega, rfl, hX0, hB0⟩
  case round =>
    clear hX0 hB0
    obtain ⟨j, hj, rfl, hX, hB⟩ := hrel
    have hXl := hX.lt
    have d0 : wr.cell? ⟨w.heap.size, 0, none⟩ = some (.int .i64 3) := hX.cell 0
    have d1 : wr.cell? ⟨w.heap.size, 1, none⟩ = some (.int .i64 0) := hX.cell 1
    have d2 : wr.cell? ⟨w.heap.size, 2, none⟩ = some (.string ⟨#[]⟩) := hX.cell 2
    have d3 : wr.cell? ⟨w.heap.size, 3, none⟩ = some (.slice A m c) := hX.cell 3
    have HX := Lib.hid hX
    clear hX
    by_cases hlt : j < m
    · obtain ⟨b, off, rfl, hbl, hcells⟩ := HE.out (by rw [← HM.out]; omega)
      obtain ⟨x, hx⟩ : ∃ x, l[j]? = some x := ⟨_, List.getElem?_eq_getElem (by rw [← HM.out]; exact hlt)⟩
      obtain ⟨c0, c1, c2, c3⟩ := hcells j x hx
      have c0' := (hB.cell (p := ⟨b, _, none⟩) hbl).trans c0
      have c1' := (hB.cell (p := ⟨b, _, none⟩) hbl).trans c1
      have c2' := (hB.cell (p := ⟨b, _, none⟩) hbl).trans c2
      have c3' := (hB.cell (p := ⟨b, _, none⟩) hbl).trans c3
      have hmem := List.mem_of_getElem? hx
      clear c0 c1 c2 c3 hx hcells
      go_wp2_with fail
      refine (HF.out x hmem _ hB).mono ?_
      rintro e w2 ⟨rfl, hb2⟩
      have hX2 := HX.out.below hb2 hXl
      have hB2 := hB.trans (hb2.mono hB.size)
      clear c0' c1' c2' c3' hb2 hB d0 d1 d2 d3
      go_wp2_with fail
      go_roundw
      case rel => exact ⟨j + 1, by omega, by go_num, hX2, hB2⟩
      case measure => simp [intOf]; omega
    · obtain rfl : j = m := by omega
      go_wp2_with fail
      go_ret
      exact ⟨rfl, hB⟩

set_option maxRecDepth 100000 in
set_option maxHeartbeats 2000000 in
theorem rdepth_list (A : Option Addr) (l : List V4) (c d : Nat) (w : World) (hE : Elems w w.heap.size A l) (hl : l.length ≤ c) (hc : c ≤ 9223372036854775807) (hd : d ≤ 1000000)
    (h1 : ∀ x ∈ l, x.n.oneCell' = true ∧ x.s.oneCell' = true ∧ x.l.oneCell' = true) (hf : ∀ x ∈ l, RDeep x d w) :
    Calls Tryd.prog 128 #[(V4.list A l.length c).agg] w (DeepPost (d + 1) w) := by
  show Calls Tryd.prog 128 #[.agg #[.int .i64 3, .int .i64 0, .string ⟨#[]⟩, .slice A l.length c]] w (DeepPost (d + 1) w)
  obtain ⟨m, hm⟩ : ∃ m, m = l.length := ⟨_, rfl⟩
  rw [← hm] at hl ⊢
  have HM := Lib.hid hm
  have HF := Lib.hid hf
  have H1 := Lib.hid h1
  have HE := Lib.hid hE
  clear hm hf h1 hE
  go_enter Tryd.func128, Tryd.ntmps128
  go_wp2_with fail
  have hX0 : Blk (w.alloc (.cells #[.int .i64 3, .int .i64 0, .string ⟨#[]⟩, .slice A m c] 93)) w.heap.size 93 #[.int .i64 3, .int .i64 0, .string ⟨#[]⟩, .slice A m c] := Blk.new _ _ _
  have hB0 : Below w.heap.size w (w.alloc (.cells #[.int .i64 3, .int .i64 0, .string ⟨#[]⟩, .slice A m c] 93)) := (Below.refl _ w).alloc (Nat.le_refl _) _
  go_loopw [3, 4] (fun D i wr => ∃ j d' : Nat, j ≤ m ∧ i = .int .i64 j ∧ d' ≤ d ∧ D = .int .i64 d' ∧ Blk wr w.heap.size 93 #[.int .i64 3, .int .i64 0, .string ⟨#[]⟩, .slice A m c] ∧ Below w.heap.size w wr) (fun _ i _ => m - (intOf i).toNat)
  case atStart => exact ⟨0, 0, by omega, rfl, by omega, rfl, hX0, hB0⟩
  case round =>
    clear hX0 hB0
    obtain ⟨j, d', hj, rfl, hd', rfl, hX, hB⟩ := hrel
    have hXl := hX.lt
    have d0 : wr.cell? ⟨w.heap.size, 0, none⟩ = some (.int .i64 3) := hX.cell 0
    have d3 : wr.cell? ⟨w.heap.size, 3, none⟩ = some (.slice A m c) := hX.cell 3
    have HX := Lib.hid hX
    clear hX
    by_cases hlt : j < m
    · obtain ⟨b, off, rfl, hbl, hcells⟩ := HE.out (by rw [← HM.out]; omega)
      obtain ⟨x, hx⟩ : ∃ x, l[j]? = some x := ⟨_, List.getElem?_eq_getElem (by rw [← HM.out]; exact hlt)⟩
      obtain ⟨c0, c1, c2, c3⟩ := hcells j x hx
      have c0' := (hB.cell (p := ⟨b, _, none⟩) hbl).trans c0
      have c1' := (hB.cell (p := ⟨b, _, none⟩) hbl).trans c1
      have c2' := (hB.cell (p := ⟨b, _, none⟩) hbl).trans c2
      have c3' := (hB.cell (p := ⟨b, _, none⟩) hbl).trans c3
      have hmem := List.mem_of_getElem? hx
      clear c0 c1 c2 c3 hx hcells
      go_wp2_with fail
      refine (HF.out x hmem _ hB).mono ?_
      rintro e w2 ⟨⟨d2, hd2, rfl⟩, hb2⟩
      have hX2 := HX.out.below hb2 hXl
      have hB2 := hB.trans (hb2.mono hB.size)
      clear c0' c1' c2' c3' hb2 hB d0 d3
      go_wp2_with fail
      go_roundw
      case rel => exact ⟨j + 1, max d' d2, by omega, by go_num, by omega, by first | rfl | (congr 1; omega), hX2, hB2⟩
      case measure => simp [intOf]; omega
    · obtain rfl : j = m := by omega
      go_wp2_with fail
      go_ret
      exact ⟨⟨d' + 1, by omega, rfl⟩, hB⟩
end Go.Proofs.YtibnikokgbfcdaaDoor

/- Several texts in one: R1, R2, R5. -/
import Derived.Test.YtibnikokgbfcdaaDoorW11
import Derived.Test.YtibnikokgbfcdaaDoorLow
/- Walks: podiumref01.numeral, unsigned, Formed, Depth. -/
namespace Go.Proofs.YtibnikokgbfcdaaDoor
open Go.RowKit

theorem own_bytes_new (w : World) (base : Nat) (hb : base ≤ w.heap.size) (l : List UInt8) (hl : l.length ≤ maxLen) :
    (w.alloc (.cells (bcells l).toArray 5)).ownsRow base 5 1 (.slice (some ⟨w.heap.size, 0, none⟩) l.length l.length) l.length (bcells l) :=
  ⟨by rw [bcells_len]; omega, .inr ⟨w.heap.size, l.length, _, rfl, hb, heap_alloc_new w _, Nat.le_refl _, hl, by simp [bcells_len], by rw [Nat.mul_one]; exact List.take_of_length_le (by rw [bcells_len]; exact Nat.le_refl _)⟩⟩
theorem own_byte_new (w : World) (base : Nat) (hb : base ≤ w.heap.size) (z : Int) (c : UInt8) (hz : z = (c.toNat : Int)) :
    (w.alloc (.cells #[.int .u8 z] 5)).ownsRow base 5 1 (.slice (some ⟨w.heap.size, 0, none⟩) 1 1) 1 [B8 c] := by
  subst hz
  exact own_bytes_new w base hb [c] (by simp only [maxLen, List.length_cons, List.length_nil]; omega)
theorem own_slice {w : World} {base : Nat} {v : Value} {n : Nat} {l : List UInt8} (h : w.ownsRow base 5 1 v n (bcells l)) : n = l.length ∧ ∃ A c, v = .slice A l.length c ∧ l.length ≤ c ∧ c ≤ 9223372036854775807 ∧ RdB w w.heap.size A l := by
  have hn : n = l.length := by have := h.1; rw [bcells_len] at this; omega
  subst hn
  refine ⟨rfl, ?_⟩
  rcases h.2 with ⟨rfl, h0⟩ | ⟨g, cap, cur, rfl, _, _, h1, h2, _⟩
  · refine ⟨none, 0, by rw [h0], by omega, by omega, ?_⟩
    have : l = [] := List.eq_nil_of_length_eq_zero h0
    subst this
    exact RdB.nil
  · exact ⟨_, cap, rfl, h1, by simp only [maxLen] at h2; omega, (RdB.of_own h).2⟩

theorem own_below {w w' : World} {base : Nat} {e : TypeId} {size : Nat} {v : Value} {n : Nat} {xs : List Value} (h : w.ownsRow base e size v n xs) (hb : Below w.heap.size w w') : w'.ownsRow base e size v n xs :=
  World.ownsRow.kept h (row := none) ⟨hb.os, hb.tape, hb.output, hb.size, fun i hi _ => hb.block i hi⟩ (by cases v.ownBlock <;> simp)
set_option maxRecDepth 100000 in
set_option maxHeartbeats 1000000 in
theorem rnumeral_any (k : Nat) : ∀ (u : Nat), u < 128 ^ k → 0 < k → u < 18446744073709551616 → ∀ w : World, Calls Tryd.prog 129 #[.int .u64 u] w (OwnPost (numB u) w) := by
  induction k with
  | zero => intro u _ h; omega
  | succ k ih =>
    intro u hu _ h64 w
    by_cases hlt : u < 128
    · clear hu ih
      go_enter Tryd.func129, Tryd.ntmps129
      go_wp2_with fail
      go_ret
      refine ⟨_, rfl, ?_, (Below.refl _ w).alloc (Nat.le_refl _) _⟩
      rw [numB_small u hlt]
      exact own_byte_new w _ (Nat.le_refl _) _ (UInt8.ofNat u) (by first | exact u8_mod u hlt | exact u8_id u hlt)
    · have h1 : u / 128 < 128 ^ k := by
        rw [Nat.div_lt_iff_lt_mul (by decide)]
        rw [Nat.pow_succ] at hu
        exact hu
      have h2 : 0 < k := by
        rcases Nat.eq_zero_or_pos k with h0 | h0
        · subst h0; simp at h1; omega
        · exact h0
      have hq0 : ((u / 128 : Nat) : Int) = (u : Int) / 128 := by omega
      have IH := Lib.hid (ih (u / 128) h1 h2 (by omega))
      rw [hq0] at IH
      have hge : 128 ≤ u := by omega
      have hm : (u : Int).tmod 128 = ((u % 128 : Nat) : Int) := by rw [Int.tmod_eq_emod_of_nonneg (by omega)]; omega
      have hq : (u : Int).tdiv 128 = ((u / 128 : Nat) : Int) := by rw [Int.tdiv_eq_ediv_of_nonneg (by omega)]; omega
      have hlen := numB_len10 (u / 128) (by omega)
      clear hu ih h1 h2 hlt
      go_enter Tryd.func129, Tryd.ntmps129
      go_wp2_with fail
      have hB0 : Below w.heap.size w (w.alloc (.cells #[.int .u8 ((u : Int) % 128 + 128)] 5)) := (Below.refl _ w).alloc (Nat.le_refl _) _
      have hO0 := own_byte_new w w.heap.size (Nat.le_refl _) ((u : Int) % 128 + 128) (UInt8.ofNat (u % 128 + 128)) (by rw [UInt8.toNat_ofNat_of_lt' (by omega : u % 128 + 128 < 256)]; omega)
      generalize w.alloc (.cells #[.int .u8 ((u : Int) % 128 + 128)] 5) = w1 at hB0 hO0 ⊢
      refine (IH.out w1).mono ?_
      rintro e w2 ⟨v2, rfl, hown2, hb2⟩
      have hO2 := own_below hO0 hb2
      have hB2 := hB0.trans (hb2.mono hB0.size)
      obtain ⟨-, A2, c2, rfl, hc2, hc2', hr2⟩ := own_slice hown2
      clear hB0 hO0 hb2 hown2
      go_wp2_with (at_builtin; refine app_bytes _ rfl _ _ 39 rfl w.heap.size _ 1 _ rfl hO2 _ _ (bcells (numB (u / 128))) rfl (src_bytes _ hr2) (by omega) hB2.size ?_; intro v3 w3 hown3 hg3)
      go_ret
      refine ⟨v3, rfl, ?_, hB2.trans (hg3.below hB2.size fun k hk => (hO2.lt k hk).1)⟩
      rw [numB_step u hge, List.length_cons, Nat.add_comm _ 1, bcells_cons]
      exact hown3

set_option maxRecDepth 100000 in
set_option maxHeartbeats 1000000 in
theorem runsigned_any (n : Nat) (w : World) (hn : n ≤ 4611686018427387000) :
    Calls Tryd.prog 130 #[.int .i64 n] w fun e w' => e = .returned (.int .u64 ((2 * n : Nat) : Int)) ∧ w = w' := by
  go_enter Tryd.func130, Tryd.ntmps130
  go_wp2
  go_ret
  refine ⟨?_, rfl⟩
  first | rfl | (congr 2; omega)

def RForm (x : V4) (w : World) : Prop := ∀ w', Below w.heap.size w w' → Calls Tryd.prog 127 #[x.agg] w' (Ret (.bool true) w')
def DeepPost (d : Nat) (w : World) (e : Ending) (w' : World) : Prop := (∃ d' : Nat, d' ≤ d ∧ e = .returned (.int .i64 d')) ∧ Below w.heap.size w w'
def RDeep (x : V4) (d : Nat) (w : World) : Prop := ∀ w', Below w.heap.size w w' → Calls Tryd.prog 128 #[x.agg] w' (DeepPost d w')

set_option maxRecDepth 100000 in
set_option maxHeartbeats 1000000 in
theorem rformed_int (k : Nat) (w : World) : Calls Tryd.prog 127 #[.agg #[.int .i64 1, .int .i64 k, .string ⟨#[]⟩, .slice none 0 0]] w (Ret (.bool true) w) := by
  go_enter Tryd.func127, Tryd.ntmps127
  go_wp2
  all_goals
    go_ret
    exact ⟨rfl, (Below.refl _ w).alloc (Nat.le_refl _) _⟩
set_option maxRecDepth 100000 in
set_option maxHeartbeats 1000000 in
theorem rformed_text (s : ByteArray) (w : World) : Calls Tryd.prog 127 #[.agg #[.int .i64 2, .int .i64 0, .string s, .slice none 0 0]] w (Ret (.bool true) w) := by
  go_enter Tryd.func127, Tryd.ntmps127
  go_wp2
  all_goals
    go_ret
    exact ⟨rfl, (Below.refl _ w).alloc (Nat.le_refl _) _⟩
set_option maxRecDepth 100000 in
set_option maxHeartbeats 1000000 in
theorem rdepth_leaf (k : Nat) (hk : k ≠ 3) (n s l : Value) (w : World) : Calls Tryd.prog 128 #[.agg #[.int .i64 k, n, s, l]] w (DeepPost 0 w) := by
  have hk' : ¬ ((k : Int) = 3) := by omega
  go_enter Tryd.func128, Tryd.ntmps128
  go_wp2
  all_goals
    go_ret
    exact ⟨⟨0, Nat.le_refl _, rfl⟩, (Below.refl _ w).alloc (Nat.le_refl _) _⟩

set_option maxRecDepth 100000 in
set_option maxHeartbeats 2000000 in
theorem rformed_list (A : Option Addr) (l : List V4) (c : Nat) (w : World) (hE : Elems w w.heap.size A l) (hl : l.length ≤ c) (hc : c ≤ 9223372036854775807)
    (h1 : ∀ x ∈ l, x.n.oneCell' = true ∧ x.s.oneCell' = true ∧ x.l.oneCell' = true) (hf : ∀ x ∈ l, RForm x w) :
    Calls Tryd.prog 127 #[(V4.list A l.length c).agg] w (Ret (.bool true) w) := by
  show Calls Tryd.prog 127 #[.agg #[.int .i64 3, .int .i64 0, .string ⟨#[]⟩, .slice A l.length c]] w (Ret (.bool true) w)
  obtain ⟨m, hm⟩ : ∃ m, m = l.length := ⟨_, rfl⟩
  rw [← hm] at hl ⊢
  have HM := Lib.hid hm
  have HF := Lib.hid hf
  have H1 := Lib.hid h1
  have HE := Lib.hid hE
  clear hm hf h1 hE
  go_enter Tryd.func127, Tryd.ntmps127
  go_wp2_with fail
  have hX0 : Blk (w.alloc (.cells #[.int .i64 3, .int .i64 0, .string ⟨#[]⟩, .slice A m c] 93)) w.heap.size 93 #[.int .i64 3, .int .i64 0, .string ⟨#[]⟩, .slice A m c] := Blk.new _ _ _
  have hB0 : Below w.heap.size w (w.alloc (.cells #[.int .i64 3, .int .i64 0, .string ⟨#[]⟩, .slice A m c] 93)) := (Below.refl _ w).alloc (Nat.le_refl _) _
  go_loopw [3] (fun i wr => ∃ j : Nat, j ≤ m ∧ i = .int .i64 j ∧ Blk wr w.heap.size 93 #[.int .i64 3, .int .i64 0, .string ⟨#[]⟩, .slice A m c] ∧ Below w.heap.size w wr) (fun i _ => m - (intOf i).toNat)
  case atStart => exact ⟨0, by omega, rfl, hX0, hB0⟩
  case round =>
    clear hX0 hB0
    obtain ⟨j, hj, rfl, hX, hB⟩ := hrel
    have hXl := hX.lt
    have d0 : wr.cell? ⟨w.heap.size, 0, none⟩ = some (.int .i64 3) := hX.cell 0
    have d1 : wr.cell? ⟨w.heap.size, 1, none⟩ = some (.int .i64 0) := hX.cell 1
    have d2 : wr.cell? ⟨w.heap.size, 2, none⟩ = some (.string ⟨#[]⟩) := hX.cell 2
    have d3 : wr.cell? ⟨w.heap.size, 3, none⟩ = some (.slice A m c) := hX.cell 3
    have HX := Lib.hid hX
    clear hX
    by_cases hlt : j < m
    · obtain ⟨b, off, rfl, hbl, hcells⟩ := HE.out (by rw [← HM.out]; omega)
      obtain ⟨x, hx⟩ : ∃ x, l[j]? = some x := ⟨_, List.getElem?_eq_getElem (by rw [← HM.out]; exact hlt)⟩
      obtain ⟨c0, c1, c2, c3⟩ := hcells j x hx
      have c0' := (hB.cell (p := ⟨b, _, none⟩) hbl).trans c0
      have c1' := (hB.cell (p := ⟨b, _, none⟩) hbl).trans c1
      have c2' := (hB.cell (p := ⟨b, _, none⟩) hbl).trans c2
      have c3' := (hB.cell (p := ⟨b, _, none⟩) hbl).trans c3
      have hmem := List.mem_of_getElem? hx
      clear c0 c1 c2 c3 hx hcells
      go_wp2_with fail
      refine (HF.out x hmem _ hB).mono ?_
      rintro e w2 ⟨rfl, hb2⟩
      have hX2 := HX.out.below hb2 hXl
      have hB2 := hB.trans (hb2.mono hB.size)
      clear c0' c1' c2' c3' hb2 hB d0 d1 d2 d3
      go_wp2_with fail
      go_roundw
      case rel => exact ⟨j + 1, by omega, by go_num, hX2, hB2⟩
      case measure => simp [intOf]; omega
    · obtain rfl : j = m := by omega
      go_wp2_with fail
      go_ret
      exact ⟨rfl, hB⟩

set_option maxRecDepth 100000 in
set_option maxHeartbeats 2000000 in
theorem rdepth_list (A : Option Addr) (l : List V4) (c d : Nat) (w : World) (hE : Elems w w.heap.size A l) (hl : l.length ≤ c) (hc : c ≤ 9223372036854775807) (hd : d ≤ 1000000)
    (h1 : ∀ x ∈ l, x.n.oneCell' = true ∧ x.s.oneCell' = true ∧ x.l.oneCell' = true) (hf : ∀ x ∈ l, RDeep x d w) :
    Calls Tryd.prog 128 #[(V4.list A l.length c).agg] w (DeepPost (d + 1) w) := by
  show Calls Tryd.prog 128 #[.agg #[.int .i64 3, .int .i64 0, .string ⟨#[]⟩, .slice A l.length c]] w (DeepPost (d + 1) w)
  obtain ⟨m, hm⟩ : ∃ m, m = l.length := ⟨_, rfl⟩
  rw [← hm] at hl ⊢
  have HM := Lib.hid hm
  have HF := Lib.hid hf
  have H1 := Lib.hid h1
  have HE := Lib.hid hE
  clear hm hf h1 hE
  go_enter Tryd.func128, Tryd.ntmps128
  go_wp2_with fail
  have hX0 : Blk (w.alloc (.cells #[.int .i64 3, .int .i64 0, .string ⟨#[]⟩, .slice A m c] 93)) w.heap.size 93 #[.int .i64 3, .int .i64 0, .string ⟨#[]⟩, .slice A m c] := Blk.new _ _ _
  have hB0 : Below w.heap.size w (w.alloc (.cells #[.int .i64 3, .int .i64 0, .string ⟨#[]⟩, .slice A m c] 93)) := (Below.refl _ w).alloc (Nat.le_refl _) _
  go_loopw [3, 4] (fun D i wr => ∃ j d' : Nat, j ≤ m ∧ i = .int .i64 j ∧ d' ≤ d ∧ D = .int .i64 d' ∧ Blk wr w.heap.size 93 #[.int .i64 3, .int .i64 0, .string ⟨#[]⟩, .slice A m c] ∧ Below w.heap.size w wr) (fun _ i _ => m - (intOf i).toNat)
  case atStart => exact ⟨0, 0, by omega, rfl, by omega, rfl, hX0, hB0⟩
  case round =>
    clear hX0 hB0
    obtain ⟨j, d', hj, rfl, hd', rfl, hX, hB⟩ := hrel
    have hXl := hX.lt
    have d0 : wr.cell? ⟨w.heap.size, 0, none⟩ = some (.int .i64 3) := hX.cell 0
    have d3 : wr.cell? ⟨w.heap.size, 3, none⟩ = some (.slice A m c) := hX.cell 3
    have HX := Lib.hid hX
    clear hX
    by_cases hlt : j < m
    · obtain ⟨b, off, rfl, hbl, hcells⟩ := HE.out (by rw [← HM.out]; omega)
      obtain ⟨x, hx⟩ : ∃ x, l[j]? = some x := ⟨_, List.getElem?_eq_getElem (by rw [← HM.out]; exact hlt)⟩
      obtain ⟨c0, c1, c2, c3⟩ := hcells j x hx
      have c0' := (hB.cell (p := ⟨b, _, none⟩) hbl).trans c0
      have c1' := (hB.cell (p := ⟨b, _, none⟩) hbl).trans c1
      have c2' := (hB.cell (p := ⟨b, _, none⟩) hbl).trans c2
      have c3' := (hB.cell (p := ⟨b, _, none⟩) hbl).trans c3
      have hmem := List.mem_of_getElem? hx
      clear c0 c1 c2 c3 hx hcells
      go_wp2_with fail
      refine (HF.out x hmem _ hB).mono ?_
      rintro e w2 ⟨⟨d2, hd2, rfl⟩, hb2⟩
      have hX2 := HX.out.below hb2 hXl
      have hB2 := hB.trans (hb2.mono hB.size)
      clear c0' c1' c2' c3' hb2 hB d0 d3
      go_wp2_with fail
      go_roundw
      case rel => exact ⟨j + 1, max d' d2, by omega, by go_num, by omega, by first | rfl | (congr 1; omega), hX2, hB2⟩
      case measure => simp [intOf]; omega
    · obtain rfl : j = m := by omega
      go_wp2_with fail
      go_ret
      exact ⟨⟨d' + 1, by omega, rfl⟩, hB⟩
end Go.Proofs.YtibnikokgbfcdaaDoor

/- Walks: podiumref01.Check, encode, Encode. -/
namespace Go.Proofs.YtibnikokgbfcdaaDoor
open Go.RowKit

set_option maxRecDepth 100000 in
set_option maxHeartbeats 1000000 in
theorem rcheck_ok (x : V4) (d : Nat) (w : World) (hf : RForm x w) (hdp : RDeep x d w) (h1 : x.n.oneCell' = true ∧ x.s.oneCell' = true ∧ x.l.oneCell' = true) (hd : d ≤ 16) : Calls Tryd.prog 110 #[x.agg] w (Ret (.int .i64 0) w) := by
  obtain ⟨k, n, s, l⟩ := x
  have HF := Lib.hid hf
  have HD := Lib.hid hdp
  clear hf hdp
  show Calls Tryd.prog 110 #[.agg #[.int .i64 k, n, s, l]] w (Ret (.int .i64 0) w)
  go_enter Tryd.func110, Tryd.ntmps110
  go_wp2_with fail
  have hX0 : Blk (w.alloc (.cells #[.int .i64 k, n, s, l] 93)) w.heap.size 93 #[.int .i64 k, n, s, l] := Blk.new _ _ _
  have hB0 : Below w.heap.size w (w.alloc (.cells #[.int .i64 k, n, s, l] 93)) := (Below.refl _ w).alloc (Nat.le_refl _) _
  generalize w.alloc (.cells #[.int .i64 k, n, s, l] 93) = w1 at hX0 hB0 ⊢
  refine (HF.out w1 hB0).mono ?_
  rintro e w2 ⟨rfl, hb⟩
  have hX2 := hX0.below hb hX0.lt
  have hB2 := hB0.trans (hb.mono hB0.size)
  have d0 : w2.cell? ⟨w.heap.size, 0, none⟩ = some (.int .i64 k) := hX2.cell 0
  have d1 : w2.cell? ⟨w.heap.size, 1, none⟩ = some n := hX2.cell 1
  have d2 : w2.cell? ⟨w.heap.size, 2, none⟩ = some s := hX2.cell 2
  have d3 : w2.cell? ⟨w.heap.size, 3, none⟩ = some l := hX2.cell 3
  clear hX0 hB0 hb hX2
  go_wp2_with fail
  refine (HD.out w2 hB2).mono ?_
  rintro e w3 ⟨⟨d', hd', rfl⟩, hb⟩
  have hB3 := hB2.trans (hb.mono hB2.size)
  have hd16 : d' ≤ 16 := by omega
  clear d0 d1 d2 d3 hb hd'
  go_wp2_with fail
  go_ret
  exact ⟨rfl, hB3⟩

def RWrit (x : V4) (e : List UInt8) (w : World) : Prop := ∀ w', Below w.heap.size w w' → Calls Tryd.prog 111 #[x.agg] w' (OwnPost e w')

set_option maxRecDepth 100000 in
set_option maxHeartbeats 1000000 in
theorem rencode_int (k : Nat) (hk : k ≤ 4611686018427387000) (w : World) : Calls Tryd.prog 111 #[.agg #[.int .i64 1, .int .i64 k, .string ⟨#[]⟩, .slice none 0 0]] w (OwnPost (intB k) w) := by
  have HU := Lib.hid (fun W => runsigned_any k W hk)
  have HN := Lib.hid (fun W => rnumeral_any 10 (2 * k) (by omega) (by decide) (by omega) W)
  have hlen := numB_len10 (2 * k) (by omega)
  go_enter Tryd.func111, Tryd.ntmps111
  go_wp2_with fail
  have hB0 : Below w.heap.size w ((w.alloc (.cells #[.int .i64 1, .int .i64 k, .string ⟨#[]⟩, .slice none 0 0] 93)).alloc (.cells #[.int .u8 1] 5)) := ((Below.refl _ w).alloc (Nat.le_refl _) _).alloc (by simp) _
  have hO0 := own_byte_new (w.alloc (.cells #[.int .i64 1, .int .i64 k, .string ⟨#[]⟩, .slice none 0 0] 93)) w.heap.size (by simp) 1 1 rfl
  simp only [World.size_alloc] at hO0 ⊢
  generalize (w.alloc (.cells #[.int .i64 1, .int .i64 k, .string ⟨#[]⟩, .slice none 0 0] 93)).alloc (.cells #[.int .u8 1] 5) = w1 at hB0 hO0 ⊢
  refine (HU.out _).mono ?_
  rintro e w2 ⟨rfl, rfl⟩
  go_wp2_with fail
  refine (HN.out _).mono ?_
  rintro e w2 ⟨v2, rfl, hown2, hb2⟩
  have hO2 := own_below hO0 hb2
  have hB2 := hB0.trans (hb2.mono hB0.size)
  obtain ⟨-, A2, c2, rfl, hc2, hc2', hr2⟩ := own_slice hown2
  clear hB0 hO0 hb2 hown2
  go_wp2_with (at_builtin; refine app_bytes _ rfl _ _ 39 rfl w.heap.size _ 1 [B8 1] rfl hO2 _ _ (bcells (numB (2 * k))) rfl (src_bytes _ hr2) (by omega) hB2.size ?_; intro v3 w3 hown3 hg3)
  go_ret
  refine ⟨v3, rfl, ?_, hB2.trans (hg3.below hB2.size fun k hk => (hO2.lt k hk).1)⟩
  rw [intB, List.length_cons, Nat.add_comm _ 1, bcells_cons]
  exact hown3

set_option maxRecDepth 100000 in
set_option maxHeartbeats 1000000 in
theorem rencode_text (s : ByteArray) (hs : s.size ≤ 140737488000000) (w : World) : Calls Tryd.prog 111 #[.agg #[.int .i64 2, .int .i64 0, .string s, .slice none 0 0]] w (OwnPost (textB s.data.toList) w) := by
  have HN := Lib.hid (fun W => rnumeral_any 10 s.size (by omega) (by decide) (by omega) W)
  have hlen := numB_len10 s.size (by omega)
  have hwr : IntKind.u64.wrap (s.size : Int) = s.size := by rw [IntKind.wrap_u64]; omega
  go_enter Tryd.func111, Tryd.ntmps111
  go_wp2_with fail
  have hc : (w.alloc (.cells #[.int .i64 2, .int .i64 0, .string s, .slice none 0 0] 93)).cell? ⟨w.heap.size, 2, none⟩ = some (.string s) := (Blk.new w _ _).cell 2
  have hB1 : Below w.heap.size w (w.alloc (.cells #[.int .i64 2, .int .i64 0, .string s, .slice none 0 0] 93)) := (Below.refl _ w).alloc (Nat.le_refl _) _
  have hlt : w.heap.size < (w.alloc (.cells #[.int .i64 2, .int .i64 0, .string s, .slice none 0 0] 93)).heap.size := by simp
  generalize w.alloc (.cells #[.int .i64 2, .int .i64 0, .string s, .slice none 0 0] 93) = w1 at hc hB1 hlt ⊢
  go_region_held3 (fun w' => w'.cell? ⟨w.heap.size, 2, none⟩ = some (.string s)) (first | exact hc5 | exact hc4 | exact hc3 | exact hc | go_keep)
    ((first
      | (go_at_call 129; refine (HN.out (w1.drew.alloc (.cells #[.int .u8 2] 5))).mono ?_; rintro e w3 ⟨v3, rfl, hown3, hb3⟩
         have hO3 := own_below (own_byte_new w1.drew w1.heap.size (Nat.le_refl _) 2 2 rfl) hb3
         have hc3 : w3.cell? ⟨w.heap.size, 2, none⟩ = some (.string s) := (hb3.cell (p := ⟨w.heap.size, 2, none⟩) (Nat.lt_of_lt_of_le hlt (by simp))).trans ((World.cell?_alloc_lt w1.drew _ _ hlt).trans hc)
         have hB3 : Below w1.heap.size w1 w3 := (((Below.refl _ w1).drew).alloc (Nat.le_refl _) _).trans (hb3.mono (by simp))
         have hl3 : w.heap.size < w3.heap.size := Nat.lt_of_lt_of_le hlt hB3.size
         obtain ⟨-, A3, c3, rfl, -, -, hr3⟩ := own_slice hown3
         have hs3 := src_bytes w3 (c := c3) hr3)
      | (go_at_call 129; refine (HN.out w1.drew).mono ?_; rintro e w2 ⟨v3, rfl, hown3, hb3⟩
         have hc2 : w2.cell? ⟨w.heap.size, 2, none⟩ = some (.string s) := (hb3.cell (p := ⟨w.heap.size, 2, none⟩) hlt).trans hc
         have hB2 : Below w1.heap.size w1 w2 := (Below.refl _ w1).drew.trans hb3
         have hl2 : w.heap.size < w2.heap.size := Nat.lt_of_lt_of_le hlt hB2.size
         obtain ⟨-, A3, c3, rfl, -, -, hr3⟩ := own_slice hown3
         have hO3 := own_byte_new w2 w1.heap.size hB2.size 2 2 rfl
         have hs3 : Src Tryd.prog 1 39 (.slice A3 (numB s.size).length c3) (numB s.size).length (bcells (numB s.size)) (w2.alloc (.cells #[.int .u8 2] 5)) := src_bytes _ (hr3.alloc (Nat.le_refl _) _)
         have hc3 : (w2.alloc (.cells #[.int .u8 2] 5)).cell? ⟨w.heap.size, 2, none⟩ = some (.string s) := (World.cell?_alloc_lt _ _ _ hl2).trans hc2
         have hB3 := hB2.alloc hB2.size (.cells #[.int .u8 2] 5)
         have hl3 : w.heap.size < (w2.alloc (.cells #[.int .u8 2] 5)).heap.size := Nat.lt_of_lt_of_le hlt hB3.size)
      | (refine step_app rfl _ _ 39 rfl w1.heap.size _ _ 1 [B8 2] hO3 rfl _ _ (bcells (numB s.size)) hs3 rfl (by omega) hB3.size ?_
         intro v4 w4 hown4 hg4
         have hne3 : some w.heap.size ≠ Value.ownBlock _ := fun e => by have := (hO3.lt _ e.symm).1; omega
         have hc4 : w4.cell? ⟨w.heap.size, 2, none⟩ = some (.string s) := hg4.1.cell (a := ⟨w.heap.size, 2, none⟩) hc3 hne3
         have hB4 := hB3.trans (hg4.below hB3.size fun k hk => (hO3.lt k hk).1))
      | (refine step_app rfl _ _ 9 rfl w1.heap.size _ _ _ _ hown4 rfl _ s.size _ (src_string _ s) rfl (by omega) hB4.size ?_
         intro v5 w5 hown5 hg5
         have hne4 : some w.heap.size ≠ Value.ownBlock _ := fun e => by have := (hown4.lt _ e.symm).1; omega
         have hc5 : w5.cell? ⟨w.heap.size, 2, none⟩ = some (.string s) := hg5.1.cell (a := ⟨w.heap.size, 2, none⟩) hc4 hne4
         have hB5 := hB4.trans (hg5.below hB4.size fun k hk => (hown4.lt k hk).1))))
  all_goals
    go_wp2
    go_ret
    have e1 : (textB s.data.toList).length = 1 + (numB s.size).length + s.size := by
      rw [textB, List.length_cons, List.length_append]
      show (numB s.size).length + s.size + 1 = _
      omega
    have e2 : bcells (textB s.data.toList) = [B8 2] ++ bcells (numB s.size) ++ bcells s.data.toList := by
      rw [textB, bcells_cons, bcells_append]
      rfl
    refine ⟨v5, rfl, ?_, hB1.trans (hB5.mono hB1.size)⟩
    rw [e1, e2]
    exact own_weaken hown5 hB1.size

set_option maxRecDepth 100000 in
set_option maxHeartbeats 2000000 in
theorem rencode_list (A : Option Addr) (l : List V4) (es : List (List UInt8)) (c : Nat) (w : World) (hes : l.length = es.length) (hE : Elems w w.heap.size A l) (hl : l.length ≤ c) (hc : c ≤ 9223372036854775807) (hsz : (listB es).length + 16 ≤ 140737488355328)
    (h1 : ∀ x ∈ l, x.n.oneCell' = true ∧ x.s.oneCell' = true ∧ x.l.oneCell' = true) (hf : ∀ (i : Nat) x e, l[i]? = some x → es[i]? = some e → RWrit x e w) :
    Calls Tryd.prog 111 #[(V4.list A l.length c).agg] w (OwnPost (listB es) w) := by
  show Calls Tryd.prog 111 #[.agg #[.int .i64 3, .int .i64 0, .string ⟨#[]⟩, .slice A l.length c]] w (OwnPost (listB es) w)
  obtain ⟨m, hm⟩ : ∃ m, m = l.length := ⟨_, rfl⟩
  rw [← hm] at hl hes ⊢
  have hll : (listB es).length = 1 + (numB m).length + es.flatten.length := by rw [listB, List.length_cons, List.length_append, ← hes]; omega
  have hm64 : m < 18446744073709551616 := by omega
  have hwr : IntKind.u64.wrap (m : Int) = m := by rw [IntKind.wrap_u64]; omega
  have HN := Lib.hid (fun W => rnumeral_any 10 m (by omega) (by decide) (by omega) W)
  have HM := Lib.hid hm
  have HES := Lib.hid hes
  have HF := Lib.hid hf
  have H1 := Lib.hid h1
  have HE := Lib.hid hE
  have HLL := Lib.hid hll
  have hlen := numB_len10 m (by omega)
  clear hm hes hf h1 hE hll
  go_enter Tryd.func111, Tryd.ntmps111
  go_wp2_with fail
  have hB0 : Below w.heap.size w ((w.alloc (.cells #[.int .i64 3, .int .i64 0, .string ⟨#[]⟩, .slice A m c] 93)).alloc (.cells #[.int .u8 3] 5)) := ((Below.refl _ w).alloc (Nat.le_refl _) _).alloc (by simp) _
  have hX0 : Blk ((w.alloc (.cells #[.int .i64 3, .int .i64 0, .string ⟨#[]⟩, .slice A m c] 93)).alloc (.cells #[.int .u8 3] 5)) w.heap.size 93 #[.int .i64 3, .int .i64 0, .string ⟨#[]⟩, .slice A m c] := (Blk.new _ _ _).alloc _
  have hO0 := own_byte_new (w.alloc (.cells #[.int .i64 3, .int .i64 0, .string ⟨#[]⟩, .slice A m c] 93)) (w.heap.size + 1) (by simp) 3 3 rfl
  simp only [World.size_alloc] at hO0 ⊢
  generalize (w.alloc (.cells #[.int .i64 3, .int .i64 0, .string ⟨#[]⟩, .slice A m c] 93)).alloc (.cells #[.int .u8 3] 5) = w1 at hB0 hX0 hO0 ⊢
  refine (HN.out _).mono ?_
  rintro e w2 ⟨v2, rfl, hown2, hb2⟩
  have hO2 := own_below hO0 hb2
  have hX2 := hX0.below hb2 hX0.lt
  have hB2 := hB0.trans (hb2.mono hB0.size)
  have hsz2 : w.heap.size + 1 ≤ w2.heap.size := hX2.lt
  obtain ⟨-, A2, c2, rfl, hc2, hc2', hr2⟩ := own_slice hown2
  clear hB0 hO0 hb2 hown2 hX0
  go_wp2_with (at_builtin; refine app_bytes _ rfl _ _ 39 rfl (w.heap.size + 1) _ 1 [B8 3] rfl hO2 _ _ (bcells (numB m)) rfl (src_bytes _ hr2) (by omega) hsz2 ?_; intro v3 w3 hown3 hg3)
  have hX3 := hX2.grown hg3.1 (fun e => by have := (hO2.lt _ e.symm).1; omega)
  have hB3 := hB2.trans (hg3.below hB2.size fun k hk => by have := (hO2.lt k hk).1; omega)
  clear hX2 hB2 hO2 hg3 hr2
  go_wp2_with fail
  go_loopw [3, 4] (fun b i wr => ∃ j : Nat, j ≤ m ∧ i = .int .i64 j ∧ wr.ownsRow (w.heap.size + 1) 5 1 b (1 + (numB m).length + (es.take j).flatten.length) ([B8 3] ++ bcells (numB m) ++ bcells (es.take j).flatten) ∧ Blk wr w.heap.size 93 #[.int .i64 3, .int .i64 0, .string ⟨#[]⟩, .slice A m c] ∧ Below w.heap.size w wr) (fun _ i _ => m - (intOf i).toNat)
  case atStart => exact ⟨0, by omega, rfl, by simpa [bcells] using hown3, hX3, hB3⟩
  case round =>
    clear hown3 hX3 hB3
    obtain ⟨j, hj, rfl, hown, hX, hB⟩ := hrel
    have hXl := hX.lt
    have d3 : wr.cell? ⟨w.heap.size, 3, none⟩ = some (.slice A m c) := hX.cell 3
    have HX := Lib.hid hX
    clear hX
    by_cases hlt : j < m
    · obtain ⟨b, off, rfl, hbl, hcells⟩ := HE.out (by rw [← HM.out]; omega)
      obtain ⟨x, hx⟩ : ∃ x, l[j]? = some x := ⟨_, List.getElem?_eq_getElem (by rw [← HM.out]; exact hlt)⟩
      obtain ⟨e, he⟩ : ∃ e, es[j]? = some e := ⟨_, List.getElem?_eq_getElem (by rw [← HES.out]; exact hlt)⟩
      obtain ⟨c0, c1, c2, c3⟩ := hcells j x hx
      have c0' := (hB.cell (p := ⟨b, _, none⟩) hbl).trans c0
      have c1' := (hB.cell (p := ⟨b, _, none⟩) hbl).trans c1
      have c2' := (hB.cell (p := ⟨b, _, none⟩) hbl).trans c2
      have c3' := (hB.cell (p := ⟨b, _, none⟩) hbl).trans c3
      have hflat : (es.take (j + 1)).flatten = (es.take j).flatten ++ e := by
        rw [List.take_add_one, he, List.flatten_append]; simp
      have hle : (es.take (j + 1)).flatten.length ≤ es.flatten.length := by
        conv => rhs; rw [← List.take_append_drop (j + 1) es, List.flatten_append, List.length_append]
        omega
      rw [hflat, List.length_append] at hle
      have hroom : 1 + (numB m).length + (es.take j).flatten.length + e.length ≤ 140737488355328 := by have := HLL.out; omega
      have HW := Lib.hid (HF.out j x e hx he)
      have HFL := Lib.hid hflat
      clear c0 c1 c2 c3 hx he hcells hflat hle
      go_wp2_with fail
      refine (HW.out _ hB).mono ?_
      rintro en w2 ⟨v2, rfl, hown2, hb2⟩
      have hX2 := HX.out.below hb2 hXl
      have hB2 := hB.trans (hb2.mono hB.size)
      have hO2 := own_below hown hb2
      obtain ⟨-, A2, c2, rfl, hc2, hc2', hr2⟩ := own_slice hown2
      have hsz2 : w.heap.size + 1 ≤ w2.heap.size := hX2.lt
      clear c0' c1' c2' c3' hb2 hB d3 hown hown2
      go_wp2_with (at_builtin; refine app_bytes _ rfl _ _ 39 rfl (w.heap.size + 1) _ _ _ rfl hO2 _ _ (bcells e) rfl (src_bytes _ hr2) hroom hsz2 ?_; intro v3 w3 hown3 hg3)
      go_roundw
      case rel =>
        refine ⟨j + 1, by omega, by go_num, ?_, hX2.grown hg3.1 (fun e => by have := (hO2.lt _ e.symm).1; omega), hB2.trans (hg3.below hB2.size fun k hk => by have := (hO2.lt k hk).1; omega)⟩
        rw [HFL.out, List.length_append, bcells_append, ← Nat.add_assoc, ← List.append_assoc]
        exact hown3
      case measure => simp [intOf]; omega
    · obtain rfl : j = m := by omega
      go_wp2_with fail
      go_ret
      refine ⟨_, rfl, ?_, hB⟩
      have e1 : es.take j = es := List.take_of_length_le (by have := HES.out; omega)
      rw [e1] at hown
      have e2 : bcells (listB es) = [B8 3] ++ bcells (numB j) ++ bcells es.flatten := by
        rw [listB, bcells_cons, bcells_append, ← HES.out]; rfl
      rw [e2, HLL.out]
      exact own_weaken hown (Nat.le_succ _)

/-- The value x is encoded by the reference as the bytes e. -/
structure REnc (w : World) (x : V4) (d : Nat) (e : List UInt8) : Prop where
  one : x.n.oneCell' = true ∧ x.s.oneCell' = true ∧ x.l.oneCell' = true
  formed : RForm x w
  deep : RDeep x d w
  written : RWrit x e w
theorem REnc.later {w w' : World} {x : V4} {d : Nat} {e : List UInt8} (h : REnc w x d e) (hb : Below w.heap.size w w') : REnc w' x d e :=
  ⟨h.one, fun w2 h2 => h.formed w2 (hb.trans (h2.mono hb.size)), fun w2 h2 => h.deep w2 (hb.trans (h2.mono hb.size)), fun w2 h2 => h.written w2 (hb.trans (h2.mono hb.size))⟩
theorem renc_int (w : World) (k : Nat) (hk : k ≤ 4611686018427387000) : REnc w (V4.int k) 0 (intB k) := ⟨⟨rfl, rfl, rfl⟩, fun w' _ => rformed_int k w', fun w' _ => rdepth_leaf 1 (by decide) _ _ _ w', fun w' _ => rencode_int k hk w'⟩
theorem renc_text (w : World) (s : ByteArray) (hs : s.size ≤ 140737488000000) : REnc w (V4.text s) 0 (textB s.data.toList) := ⟨⟨rfl, rfl, rfl⟩, fun w' _ => rformed_text s w', fun w' _ => rdepth_leaf 2 (by decide) _ _ _ w', fun w' _ => rencode_text s hs w'⟩
theorem renc_list (w : World) (A : Option Addr) (l : List V4) (es : List (List UInt8)) (c d : Nat) (hes : l.length = es.length) (hE : Elems w w.heap.size A l) (hl : l.length ≤ c) (hc : c ≤ 9223372036854775807) (hsz : (listB es).length + 16 ≤ 140737488355328) (hd : d ≤ 1000000)
    (h : ∀ (i : Nat) x e, l[i]? = some x → es[i]? = some e → REnc w x d e) : REnc w (V4.list A l.length c) (d + 1) (listB es) := by
  have hx : ∀ x ∈ l, ∃ e, REnc w x d e := by
    intro x hx
    obtain ⟨i, hi, rfl⟩ := List.mem_iff_getElem.1 hx
    exact ⟨_, h i _ _ (List.getElem?_eq_getElem hi) (List.getElem?_eq_getElem (by omega))⟩
  have h1 : ∀ x ∈ l, x.n.oneCell' = true ∧ x.s.oneCell' = true ∧ x.l.oneCell' = true := fun x hm => by obtain ⟨e, he⟩ := hx x hm; exact he.one
  refine ⟨⟨rfl, rfl, rfl⟩, fun w' hb => ?_, fun w' hb => ?_, fun w' hb => ?_⟩
  · exact rformed_list A l c w' (hE.later hb) hl hc h1 fun x hm => by obtain ⟨e, he⟩ := hx x hm; exact (he.later hb).formed
  · exact rdepth_list A l c d w' (hE.later hb) hl hc hd h1 fun x hm => by obtain ⟨e, he⟩ := hx x hm; exact (he.later hb).deep
  · exact rencode_list A l es c w' hes (hE.later hb) hl hc hsz h1 fun i x e hi he => ((h i x e hi he).later hb).written

set_option maxRecDepth 100000 in
set_option maxHeartbeats 1000000 in
theorem rEncode_ok (x : V4) (d : Nat) (e : List UInt8) (w : World) (hx : REnc w x d e) (hd : d ≤ 16) : Calls Tryd.prog 72 #[x.agg] w (EncPost e w) := by
  have HC := Lib.hid (fun w' (hb : Below w.heap.size w w') => rcheck_ok x d w' (hx.later hb).formed (hx.later hb).deep hx.one hd)
  have HW := Lib.hid hx.written
  clear hx
  obtain ⟨k, n, s, l⟩ := x
  show Calls Tryd.prog 72 #[.agg #[.int .i64 k, n, s, l]] w (EncPost e w)
  go_enter Tryd.func72, Tryd.ntmps72
  go_wp2_with fail
  have hX0 : Blk (w.alloc (.cells #[.int .i64 k, n, s, l] 93)) w.heap.size 93 #[.int .i64 k, n, s, l] := Blk.new _ _ _
  have hB0 : Below w.heap.size w (w.alloc (.cells #[.int .i64 k, n, s, l] 93)) := (Below.refl _ w).alloc (Nat.le_refl _) _
  generalize w.alloc (.cells #[.int .i64 k, n, s, l] 93) = w1 at hX0 hB0 ⊢
  refine (HC.out w1 hB0).mono ?_
  rintro e1 w2 ⟨rfl, hb⟩
  have hX2 := hX0.below hb hX0.lt
  have hB2 := hB0.trans (hb.mono hB0.size)
  have d0 : w2.cell? ⟨w.heap.size, 0, none⟩ = some (.int .i64 k) := hX2.cell 0
  have d1 : w2.cell? ⟨w.heap.size, 1, none⟩ = some n := hX2.cell 1
  have d2 : w2.cell? ⟨w.heap.size, 2, none⟩ = some s := hX2.cell 2
  have d3 : w2.cell? ⟨w.heap.size, 3, none⟩ = some l := hX2.cell 3
  clear hX0 hB0 hb hX2
  go_wp2_with fail
  refine (HW.out w2 hB2).mono ?_
  rintro e2 w3 ⟨v3, rfl, hown3, hb3⟩
  have hB3 := hB2.trans (hb3.mono hB2.size)
  clear d0 d1 d2 d3
  go_wp2_with fail
  go_ret2
  exact ⟨v3, rfl, own_weaken hown3 hB2.size, hB3⟩
end Go.Proofs.YtibnikokgbfcdaaDoor

/- Walk: podiumref02.padded. -/
namespace Go.Proofs.YtibnikokgbfcdaaDoor
open Go.RowKit

theorem byteAt_append (a b : List UInt8) (k : Nat) : byteAt (a ++ b) k = if k < a.length then byteAt a k else byteAt b (k - a.length) := by
  unfold byteAt
  simp only [List.getD_eq_getElem?_getD]
  split
  · next h => rw [List.getElem?_append_left h]
  · next h => rw [List.getElem?_append_right (by omega)]
theorem byteAt_range (l : List UInt8) (k : Nat) : 0 ≤ byteAt l k ∧ byteAt l k < 256 := by
  have := (l.getD k 0).toNat_lt
  unfold byteAt
  omega
def padTo (l : List UInt8) (z : Nat) : List UInt8 := l ++ 128 :: List.replicate z 0
def lenOf : Value → Nat
  | .slice _ n _ => n
  | _ => 0
theorem padTo_len (l : List UInt8) (z : Nat) : (padTo l z).length = l.length + 1 + z := by simp [padTo]; omega
theorem padTo_succ (l : List UInt8) (z : Nat) : padTo l (z + 1) = padTo l z ++ [0] := by simp [padTo, List.replicate_succ']
def beL (x : Int) (j : Nat) : List UInt8 := (List.range (8 - j)).map fun t => UInt8.ofNat (byteOf x (7 - t)).toNat
theorem beL_len (x : Int) (j : Nat) : (beL x j).length = 8 - j := by simp [beL]
theorem beL_step (x : Int) (i : Nat) (h : i < 8) : beL x i = beL x (i + 1) ++ [UInt8.ofNat (byteOf x i).toNat] := by
  rw [beL, beL, show 8 - i = 8 - (i + 1) + 1 by omega, List.range_succ, List.map_append, List.map_singleton, show 7 - (8 - (i + 1)) = i by omega]
def zerosOf (n : Nat) : Nat := 64 * ((n + 8) / 64) + 56 - (n + 1)
def padL (l : List UInt8) : List UInt8 := padTo l (zerosOf l.length) ++ beL (l.length * 8) 0
theorem padL_len (l : List UInt8) : (padL l).length = 64 * ((l.length + 8) / 64 + 1) := by
  rw [padL, List.length_append, padTo_len, beL_len, zerosOf]
  omega
theorem padL_get (l : List UInt8) (k : Nat) (hk : k < 64 * ((l.length + 8) / 64 + 1)) : byteAt (padL l) k = padAt (byteAt l) l.length k := by
  rw [padL, byteAt_append, padTo_len, zerosOf, padAt]
  by_cases h1 : k < l.length
  · rw [if_pos (by omega), if_pos h1, padTo, byteAt_append, if_pos h1]
  · rw [if_neg h1]
    by_cases h2 : k = l.length
    · rw [if_pos (by omega), if_pos h2, padTo, byteAt_append, if_neg h1, h2, Nat.sub_self]
      rfl
    · rw [if_neg h2]
      by_cases h3 : k < 64 * ((l.length + 8) / 64) + 56
      · rw [if_pos (by omega), if_pos h3, padTo, byteAt_append, if_neg h1]
        obtain ⟨m, hm⟩ : ∃ m, k - l.length = m + 1 := ⟨k - l.length - 1, by omega⟩
        rw [hm]
        unfold byteAt
        rw [List.getD_eq_getElem?_getD, List.getElem?_cons_succ, List.getElem?_replicate]
        split <;> rfl
      · rw [if_neg (by omega), if_neg h3]
        obtain ⟨m, hm, hm8⟩ : ∃ m, k - (l.length + 1 + (64 * ((l.length + 8) / 64) + 56 - (l.length + 1))) = m ∧ m < 8 := ⟨_, rfl, by omega⟩
        rw [hm, show 64 * ((l.length + 8) / 64) + 63 - k = 7 - m by omega]
        unfold byteAt beL
        rw [List.getD_eq_getElem?_getD, List.getElem?_map, List.getElem?_range (by omega)]
        have hb := byteOf_range ((l.length : Int) * 8) (7 - m)
        exact u8_of _ hb.1 hb.2
theorem padAt_range (l : List UInt8) (k : Nat) : 0 ≤ padAt (byteAt l) l.length k ∧ padAt (byteAt l) l.length k < 256 := by
  unfold padAt
  split
  · exact byteAt_range l k
  · split
    · decide
    · split
      · decide
      · exact byteOf_range _ _

set_option maxRecDepth 100000 in
set_option maxHeartbeats 2000000 in
theorem rpadded_any (l : List UInt8) (A : Option Addr) (c : Nat) (w : World) (hA : RdB w w.heap.size A l) (hl : l.length ≤ 140737488300000) :
    Calls Tryd.prog 131 #[.slice A l.length c] w (OwnPost (padL l) w) := by
  obtain ⟨n, hn⟩ : ∃ n, n = l.length := ⟨_, rfl⟩
  have hs0 := fun W (hb : Below w.heap.size w W) => src_bytes W (c := c) (hA.below hb)
  rw [← hn] at hl hs0 ⊢
  have HS := Lib.hid hs0
  have HN := Lib.hid hn
  have h8 : IntKind.u64.wrap (n : Int) = n := by rw [IntKind.wrap_u64]; omega
  clear hs0 hn hA
  have hO0 : (w.alloc (.cells #[] 5)).ownsRow w.heap.size 5 1 (.slice (some ⟨w.heap.size, 0, none⟩) 0 0) 0 [] := own_bytes_new w w.heap.size (Nat.le_refl _) [] (by simp only [maxLen, List.length_nil]; omega)
  have hB0 : Below w.heap.size w (w.alloc (.cells #[] 5)) := (Below.refl _ w).alloc (Nat.le_refl _) _
  go_enter Tryd.func131, Tryd.ntmps131
  go_wp2_with (first
    | (at_builtin; refine app_bytes _ rfl _ _ 39 rfl w.heap.size _ 0 [] rfl hO0 _ n (bcells l) rfl (HS.out _ hB0) (by omega) hB0.size ?_; intro v2 w2 hown2 hg2; have hsz2 : w.heap.size ≤ w2.heap.size := Nat.le_trans hB0.size hg2.1.size; rw [Nat.zero_add, List.nil_append] at hown2)
    | (at_builtin; refine app_byte rfl _ _ rfl w.heap.size w2 v2 n (bcells l) rfl hown2 128 128 rfl _ rfl (by omega) hsz2 ?_; intro v3 w3 hown3 hg3))
  have hB2 : Below w.heap.size w w2 := hB0.trans (hg2.below hB0.size fun k hk => (hO0.lt k hk).1)
  have hB3 : Below w.heap.size w w3 := hB2.trans (hg3.below hsz2 fun k hk => (hown2.lt k hk).1)
  clear hO0 hB0 hB2 hg2 hg3 hown2 hsz2
  obtain ⟨Z, hZ⟩ : ∃ Z, Z = zerosOf n := ⟨_, rfl⟩
  have hZ' : Z = 64 * ((n + 8) / 64) + 56 - (n + 1) := hZ
  go_loopw [3] (fun v wr => ∃ z : Nat, z ≤ Z ∧ wr.ownsRow w.heap.size 5 1 v (n + 1 + z) (bcells (padTo l z)) ∧ Below w.heap.size w wr) (fun v _ => Z - (lenOf v - (n + 1)))
  case atStart => exact ⟨0, by omega, by simpa [padTo, bcells] using hown3, hB3⟩
  case round =>
    clear hown3 hB3
    obtain ⟨z, hz, hown, hB⟩ := hrel
    obtain ⟨A3, c3, rfl⟩ : ∃ A3 c3, u3 = .slice A3 (n + 1 + z) c3 := by
      rcases hown.2 with ⟨_, h0⟩ | ⟨g, cap, cur, e, _⟩
      · omega
      · exact ⟨_, _, e⟩
    by_cases hlt : z < Z
    · have hne : ¬ (((n : Int) + 1 + (z : Int)) % 64 = 56) := by omega
      go_wp2_with (at_builtin; refine app_byte rfl _ _ rfl w.heap.size wr (.slice A3 (n + 1 + z) c3) (n + 1 + z) (bcells (padTo l z)) rfl hown 0 0 rfl _ rfl (by omega) hB.size ?_; intro v4 w4 hown4 hg4)
      go_roundw
      case rel => exact ⟨z + 1, by omega, by rw [padTo_succ, bcells_append]; exact hown4, hB.trans (hg4.below hB.size fun k hk => (hown.lt k hk).1)⟩
      case measure =>
        obtain ⟨A4, c4, rfl⟩ : ∃ A4 c4, v4 = .slice A4 (n + 1 + z + 1) c4 := by
          rcases hown4.2 with ⟨_, h0⟩ | ⟨g, cap, cur, e, _⟩
          · omega
          · exact ⟨_, _, e⟩
        simp [lenOf]; omega
    · obtain rfl : z = Z := by omega
      have hne : ((n : Int) + 1 + (z : Int)) % 64 = 56 := by omega
      have HZ := Lib.hid hZ
      have hz70 : z ≤ 64 := by omega
      clear hlt hz hZ hZ'
      go_wp2_with fail
      clear hne
      go_loopw [3, 5] (fun v x wr => ∃ j : Nat, j ≤ 8 ∧ x = .int .i64 ((j : Int) - 1) ∧ wr.ownsRow w.heap.size 5 1 v (n + 1 + z + (8 - j)) (bcells (padTo l z ++ beL ((n : Int) * 8) j)) ∧ Below w.heap.size w wr) (fun _ x _ => (intOf x + 1).toNat)
      case atStart => exact ⟨8, by omega, rfl, by simpa [beL] using hown, hB⟩
      case round =>
        clear hown hB
        obtain ⟨j, hj, hx, hown, hB⟩ := hrel
        cases j with
        | zero =>
          obtain rfl : u5 = .int .i64 (-1) := hx
          go_wp2
          go_ret
          refine ⟨_, rfl, ?_, hB⟩
          have hn := HN.out
          have hz := HZ.out
          subst hn
          rw [padL_len]
          have e : l.length + 1 + z + (8 - 0) = 64 * ((l.length + 8) / 64 + 1) := by rw [hz, zerosOf]; omega
          rw [e] at hown
          rw [padL, ← hz]
          exact hown
        | succ i =>
          obtain rfl : u5 = .int .i64 i := hx.trans (by congr 1; omega)
          have hb := byteOf_range ((n : Int) * 8) i
          have HU := Lib.hid (u8_of _ hb.1 hb.2)
          clear hx hb
          go_wp2_with (at_builtin; refine app_byte rfl _ _ rfl w.heap.size wr u3 (n + 1 + z + (8 - (i + 1))) (bcells (padTo l z ++ beL ((n : Int) * 8) (i + 1))) rfl hown (UInt8.ofNat (byteOf ((n : Int) * 8) i).toNat) _ HU.out.symm _ rfl (by omega) hB.size ?_; intro v4 w4 hown4 hg4)
          go_roundw
          case rel =>
            refine ⟨i, by omega, by go_num, ?_, hB.trans (hg4.below hB.size fun k hk => (hown.lt k hk).1)⟩
            rw [beL_step _ i (by omega), ← List.append_assoc, bcells_append (padTo l z ++ beL _ (i + 1)), show n + 1 + z + (8 - i) = n + 1 + z + (8 - (i + 1)) + 1 by omega]
            exact hown4
          case measure => simp [intOf]
end Go.Proofs.YtibnikokgbfcdaaDoor

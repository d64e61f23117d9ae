/- Walks: podiumref01.Text, Int, List; podiumref32.Word. -/
import Derived.Test.YtibnikokgbfcdaaDoorR2
import Derived.Test.YtibnikokgbfcdaaDoorR6
import Derived.Test.YtibnikokgbfcdaaDoorW14
namespace Go.Proofs.YtibnikokgbfcdaaDoor
open Go.RowKit

set_option maxRecDepth 100000 in
set_option maxHeartbeats 1000000 in
theorem rText_any (s : ByteArray) (w : World) : Calls Tryd.prog 74 #[.string s] w (Ret (.agg #[.int .i64 2, .int .i64 0, .string s, .slice none 0 0]) w) := by
  go_enter Tryd.func74, Tryd.ntmps74
  go_wp2
  refine bodyPost_ret (results_cell_row rfl _ _ w.heap.size 93 _ (0, 0) _ rfl (Blk.new w 93 #[.int .i64 2, .int .i64 0, .string s, .slice none 0 0]) Tryd.underlying93 rfl valueSize) rfl ?_
  exact ⟨rfl, (Below.refl _ w).alloc (Nat.le_refl _) _⟩
set_option maxRecDepth 100000 in
set_option maxHeartbeats 1000000 in
theorem rInt_any (k : Nat) (w : World) : Calls Tryd.prog 75 #[.int .i64 k] w (Ret (.agg #[.int .i64 1, .int .i64 k, .string ⟨#[]⟩, .slice none 0 0]) w) := by
  go_enter Tryd.func75, Tryd.ntmps75
  go_wp2
  refine bodyPost_ret (results_cell_row rfl _ _ w.heap.size 93 _ (0, 0) _ rfl (Blk.new w 93 #[.int .i64 1, .int .i64 k, .string ⟨#[]⟩, .slice none 0 0]) Tryd.underlying93 rfl valueSize) rfl ?_
  exact ⟨rfl, (Below.refl _ w).alloc (Nat.le_refl _) _⟩
set_option maxRecDepth 100000 in
set_option maxHeartbeats 1000000 in
theorem rList_any (A : Option Addr) (n c : Nat) (w : World) : Calls Tryd.prog 73 #[.slice A n c] w (Ret (.agg #[.int .i64 3, .int .i64 0, .string ⟨#[]⟩, .slice A n c]) w) := by
  go_enter Tryd.func73, Tryd.ntmps73
  go_wp2
  refine bodyPost_ret (results_cell_row rfl _ _ w.heap.size 93 _ (0, 0) _ rfl (Blk.new w 93 #[.int .i64 3, .int .i64 0, .string ⟨#[]⟩, .slice A n c]) Tryd.underlying93 rfl valueSize) rfl ?_
  exact ⟨rfl, (Below.refl _ w).alloc (Nat.le_refl _) _⟩

section
variable {ops : Array Oper} {rest : List Oper} {o : Oper} {a : Act} {Q : Exit → Act → World → Prop}
theorem to_str2 (hgd : o.guard = none) (x : Operand) (ho : o.op = .convert 39 9 x) {w : World} {B : Nat} {A : Option Addr} {l : List UInt8} {c n : Nat} (hx : a.eval x = .slice A n c) (hn : n = l.length) (hR : RdB w B A l)
    (h : wpList Tryd.prog ops Q rest (a.put o.dst (.string ⟨l.toArray⟩)) w) : wpList Tryd.prog ops Q (o :: rest) a w := by
  subst hn
  exact to_str hgd x ho hx hR h
end
theorem elems_three {w : World} {g : Nat} (s : ByteArray) (no i : Nat)
    (h : Blk w g 93 #[.int .i64 2, .int .i64 0, .string s, .slice none 0 0, .int .i64 1, .int .i64 no, .string ⟨#[]⟩, .slice none 0 0, .int .i64 1, .int .i64 i, .string ⟨#[]⟩, .slice none 0 0]) :
    Elems w w.heap.size (some ⟨g, 0, none⟩) [V4.text s, V4.int no, V4.int i] := fun _ => by
  refine ⟨g, 0, rfl, h.lt, fun k x hx => ?_⟩
  rcases k with _ | _ | _ | k
  · obtain rfl := Option.some.inj hx
    exact ⟨h.cell 0, h.cell 1, h.cell 2, h.cell 3⟩
  · obtain rfl := Option.some.inj hx
    exact ⟨h.cell 4, h.cell 5, h.cell 6, h.cell 7⟩
  · obtain rfl := Option.some.inj hx
    exact ⟨h.cell 8, h.cell 9, h.cell 10, h.cell 11⟩
  · cases hx
theorem be_four (H : List UInt8) : ((byteAt H 0 * 256 + byteAt H 1) * 256 + byteAt H 2) * 256 + byteAt H 3 = ((be H 4 : Nat) : Int) := by
  simp only [be, byteAt]
  omega
set_option maxRecDepth 100000 in
set_option maxHeartbeats 2000000 in
theorem rWord_any (d : List UInt8) (hd : d.length = 32) (no i : Nat) (hno : no ≤ 1099511627776) (hi : i ≤ 1000000) (w : World) :
    Calls Tryd.prog 36 #[.agg (dig d), .int .i64 no, .int .i64 i] w (Ret (.int .i64 (wordOf d no i : Nat)) w) := by
  have hlen := wordText_len d no i hd (by omega) (by omega)
  have HLEN := Lib.hid hlen
  clear hlen
  go_enter Tryd.func36, Tryd.ntmps36
  have hR0 : RdB (w.alloc (.cells (dig d) 23)) (w.heap.size + 1) (some ⟨w.heap.size, 0, none⟩) d := Rd.of_blk (Blk.new w _ _) (Nat.lt_succ_self _) fun k hk => by rw [Nat.zero_add]; exact dig_get d k hk
  have hB0 : Below w.heap.size w (w.alloc (.cells (dig d) 23)) := (Below.refl _ w).alloc (Nat.le_refl _) _
  go_wp2_with (refine to_str2 rfl _ rfl rfl hd.symm hR0 ?_)
  clear hR0
  generalize w.alloc (.cells (dig d) 23) = w0 at hB0 ⊢
  refine (rText_any _ w0).mono ?_
  rintro e w1 ⟨rfl, hb1⟩
  have hB1 := hB0.trans (hb1.mono hB0.size)
  clear hB0 hb1
  go_wp2_with fail
  refine (rInt_any no w1).mono ?_
  rintro e w2 ⟨rfl, hb2⟩
  have hB2 := hB1.trans (hb2.mono hB1.size)
  clear hB1 hb2
  go_wp2_with fail
  refine (rInt_any i w2).mono ?_
  rintro e w3 ⟨rfl, hb3⟩
  have hB3 := hB2.trans (hb3.mono hB2.size)
  clear hB2 hb3
  go_wp2_with fail
  have hX4 : Blk (w3.alloc (.cells #[.int .i64 2, .int .i64 0, .string ⟨d.toArray⟩, .slice none 0 0, .int .i64 1, .int .i64 no, .string ⟨#[]⟩, .slice none 0 0, .int .i64 1, .int .i64 i, .string ⟨#[]⟩, .slice none 0 0] 93)) w3.heap.size 93 _ := Blk.new _ _ _
  have hB4 := hB3.alloc hB3.size (.cells #[.int .i64 2, .int .i64 0, .string ⟨d.toArray⟩, .slice none 0 0, .int .i64 1, .int .i64 no, .string ⟨#[]⟩, .slice none 0 0, .int .i64 1, .int .i64 i, .string ⟨#[]⟩, .slice none 0 0] 93)
  generalize w3.alloc (.cells #[.int .i64 2, .int .i64 0, .string ⟨d.toArray⟩, .slice none 0 0, .int .i64 1, .int .i64 no, .string ⟨#[]⟩, .slice none 0 0, .int .i64 1, .int .i64 i, .string ⟨#[]⟩, .slice none 0 0] 93) = w4 at hX4 hB4 ⊢
  obtain ⟨g, hg⟩ : ∃ g, g = w3.heap.size := ⟨_, rfl⟩
  rw [← hg] at hX4 ⊢
  clear hg hB3
  refine (rList_any (some ⟨g, 0, none⟩) 3 3 w4).mono ?_
  rintro e w5 ⟨rfl, hb5⟩
  have hE5 := (elems_three _ no i hX4).later hb5
  have hB5 := hB4.trans (hb5.mono hB4.size)
  clear hX4 hB4 hb5
  have hx : REnc w5 (V4.list (some ⟨g, 0, none⟩) 3 3) (0 + 1) (wordText d no i) := by
    refine renc_list w5 (some ⟨g, 0, none⟩) [V4.text ⟨d.toArray⟩, V4.int no, V4.int i] [textB d, intB no, intB i] 3 0 rfl hE5 (Nat.le_refl _) (by omega) (by have := HLEN.out; rw [wordText] at this; omega) (by omega) fun k x e h1 h2 => ?_
    rcases k with _ | _ | _ | k
    · obtain rfl := Option.some.inj h1
      obtain rfl := Option.some.inj h2
      exact renc_text w5 ⟨d.toArray⟩ (by show d.toArray.size ≤ _; simp; omega)
    · obtain rfl := Option.some.inj h1
      obtain rfl := Option.some.inj h2
      exact renc_int w5 no (by omega)
    · obtain rfl := Option.some.inj h1
      obtain rfl := Option.some.inj h2
      exact renc_int w5 i (by omega)
    · cases h1
  have hcall : Calls Tryd.prog 72 #[.agg #[.int .i64 3, .int .i64 0, .string ⟨#[]⟩, .slice (some ⟨g, 0, none⟩) 3 3]] w5 (EncPost (wordText d no i) w5) := rEncode_ok (V4.list (some ⟨g, 0, none⟩) 3 3) (0 + 1) (wordText d no i) w5 hx (by omega)
  have HC := Lib.hid hcall
  clear hx hE5 hcall
  go_wp2_with fail
  refine HC.out.mono ?_
  rintro e w6 ⟨v6, rfl, hown6, hb6⟩
  have hB6 := hB5.trans (hb6.mono hB5.size)
  obtain ⟨T, hT⟩ : ∃ T, T = wordText d no i := ⟨_, rfl⟩
  have hTl : T.length ≤ 1000 := by rw [hT]; exact HLEN.out
  rw [← hT] at hown6
  have HT := Lib.hid hT
  obtain ⟨-, A6, c6, rfl, -, -, hr6⟩ := own_slice hown6
  have HTG := Lib.hid (rtagged_any ⟨#[100, 114, 97, 119]⟩ A6 T c6 w6 hr6 (by omega) (by decide))
  clear hown6 hb6 hB5 hT hr6
  go_wp2_with fail
  refine HTG.out.mono ?_
  rintro e w7 ⟨rfl, hb7⟩
  have hB7 := hB6.trans (hb7.mono hB6.size)
  obtain ⟨H, hH⟩ : ∃ H, H = tagged drawTag T := ⟨_, rfl⟩
  have hHl : H.length = 32 := by rw [hH]; exact tagged_length _ _
  have hH' : tagged (⟨#[100, 114, 97, 119]⟩ : ByteArray).data.toList T = H := hH.symm
  rw [hH']
  have HH := Lib.hid hH
  clear hH hH' hb7 hB6
  have hX8 : Blk (w7.alloc (.cells (dig H) 23)) w7.heap.size 23 (dig H) := Blk.new _ _ _
  have hB8 := hB7.alloc hB7.size (.cells (dig H) 23)
  have c0 : (w7.alloc (.cells (dig H) 23)).cell? ⟨w7.heap.size, 0, none⟩ = some (.int .u8 (byteAt H 0)) := (hX8.cell 0).trans (dig_get H 0 (by omega))
  have c1 : (w7.alloc (.cells (dig H) 23)).cell? ⟨w7.heap.size, 1, none⟩ = some (.int .u8 (byteAt H 1)) := (hX8.cell 1).trans (dig_get H 1 (by omega))
  have c2 : (w7.alloc (.cells (dig H) 23)).cell? ⟨w7.heap.size, 2, none⟩ = some (.int .u8 (byteAt H 2)) := (hX8.cell 2).trans (dig_get H 2 (by omega))
  have c3 : (w7.alloc (.cells (dig H) 23)).cell? ⟨w7.heap.size, 3, none⟩ = some (.int .u8 (byteAt H 3)) := (hX8.cell 3).trans (dig_get H 3 (by omega))
  have r0 := byteAt_range H 0
  have r1 := byteAt_range H 1
  have r2 := byteAt_range H 2
  have r3 := byteAt_range H 3
  have HBE := Lib.hid (be_four H)
  clear hX8
  obtain ⟨h0, e0⟩ : ∃ h0, h0 = byteAt H 0 := ⟨_, rfl⟩
  obtain ⟨h1, e1⟩ : ∃ h1, h1 = byteAt H 1 := ⟨_, rfl⟩
  obtain ⟨h2, e2⟩ : ∃ h2, h2 = byteAt H 2 := ⟨_, rfl⟩
  obtain ⟨h3, e3⟩ : ∃ h3, h3 = byteAt H 3 := ⟨_, rfl⟩
  rw [← e0] at c0 r0 HBE
  rw [← e1] at c1 r1 HBE
  rw [← e2] at c2 r2 HBE
  rw [← e3] at c3 r3 HBE
  clear e0 e1 e2 e3
  go_wp2_with (refine store_dig_new rfl _ _ rfl _ _ _ H hHl rfl rfl rfl ?_)
  go_ret
  refine ⟨?_, hB8⟩
  rw [wordOf, ← HT.out, ← HH.out, ← HBE.out]
  rfl
end Go.Proofs.YtibnikokgbfcdaaDoor

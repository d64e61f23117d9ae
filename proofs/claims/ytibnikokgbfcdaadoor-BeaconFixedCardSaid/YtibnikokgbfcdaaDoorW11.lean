/- Walks: codec.Check, codec.Encode. -/
import Derived.Test.YtibnikokgbfcdaaDoorW910
namespace Go.Proofs.YtibnikokgbfcdaaDoor
open Go.RowKit

theorem Elems.more {w : World} {B B' : Nat} {A : Option Addr} {l : List V4} (h : Elems w B A l) (hB : B ≤ B') : Elems w B' A l := fun hn => by
  obtain ⟨b, off, e, hb, hc⟩ := h hn
  exact ⟨b, off, e, Nat.lt_of_lt_of_le hb hB, hc⟩
theorem Elems.later {w w' : World} {A : Option Addr} {l : List V4} (h : Elems w w.heap.size A l) (hb : Below w.heap.size w w') : Elems w' w'.heap.size A l := (h.below hb).more hb.size
theorem IsFormed.later {w w' : World} {x : V4} {d : Nat} (h : IsFormed w x d) (hb : Below w.heap.size w w') : IsFormed w' x d := fun w'' hb' => h w'' (hb.trans (hb'.mono hb.size))
/-- The value x is encoded as the bytes e, in whatever world in which what lies below is as in w. -/
structure Enc (w : World) (x : V4) (d : Nat) (e : List UInt8) : Prop where
  kind : kindOk x
  one : x.n.oneCell' = true ∧ x.s.oneCell' = true ∧ x.l.oneCell' = true
  formed : IsFormed w x d
  written : IsWritten w x e
theorem IsWritten.later {w w' : World} {x : V4} {e : List UInt8} (h : IsWritten w x e) (hb : Below w.heap.size w w') : IsWritten w' x e := fun w2 base gb gt v n xs h1 h2 h3 h4 h5 h6 h7 h8 =>
  h w2 base gb gt v n xs (hb.trans (h1.mono hb.size)) (Nat.le_trans hb.size h2) h3 h4 h5 h6 h7 h8
theorem Enc.later {w w' : World} {x : V4} {d : Nat} {e : List UInt8} (h : Enc w x d e) (hb : Below w.heap.size w w') : Enc w' x d e := ⟨h.kind, h.one, h.formed.later hb, h.written.later hb⟩
theorem enc_int (w : World) (k : Nat) (hk : k ≤ 4611686018427387000) : Enc w (V4.int k) 0 (intB k) := ⟨.inl rfl, ⟨rfl, rfl, rfl⟩, fun w' _ => formed_int k w', written_int w k hk⟩
theorem enc_text (w : World) (s : ByteArray) : Enc w (V4.text s) 0 (textB s.data.toList) := ⟨.inr (.inl rfl), ⟨rfl, rfl, rfl⟩, fun w' _ => formed_text s w', written_text w s⟩
theorem enc_list (w : World) (A : Option Addr) (l : List V4) (es : List (List UInt8)) (c d : Nat) (hes : l.length = es.length) (hE : Elems w w.heap.size A l) (hl : l.length ≤ c) (hc : c ≤ 9223372036854775807) (hm47 : l.length ≤ 140737488355328) (hd : d ≤ 1000000)
    (h : ∀ (i : Nat) x e, l[i]? = some x → es[i]? = some e → Enc w x d e) : Enc w (V4.list A l.length c) (d + 1) (listB es) := by
  have hx : ∀ x ∈ l, ∃ e, Enc w x d e := by
    intro x hx
    obtain ⟨i, hi, rfl⟩ := List.mem_iff_getElem.1 hx
    exact ⟨_, h i _ _ (List.getElem?_eq_getElem hi) (List.getElem?_eq_getElem (by omega))⟩
  have h1 : ∀ x ∈ l, x.n.oneCell' = true ∧ x.s.oneCell' = true ∧ x.l.oneCell' = true := fun x hm => by obtain ⟨e, he⟩ := hx x hm; exact he.one
  refine ⟨.inr (.inr rfl), ⟨rfl, rfl, rfl⟩, fun w' hb => ?_, ?_⟩
  · exact formed_list A l c d w' (hE.later hb) hl hc hd h1 fun x hm => by obtain ⟨e, he⟩ := hx x hm; exact he.formed.later hb
  · intro w' base gb gt v n xs h2 h3 h4 h5 h6 h7 h8 h9
    exact nw3_any A l es c w w' base gb gt v n xs hes hE hl hm47 h1 (fun x hm => by obtain ⟨e, he⟩ := hx x hm; exact he.kind) (fun i x e hi he => (h i x e hi he).written) h2 h3 h4 h5 h6 h7 h8 h9

set_option maxRecDepth 100000 in
set_option maxHeartbeats 1000000 in
theorem check_ok (x : V4) (d : Nat) (w : World) (hf : IsFormed w x d) (h1 : x.n.oneCell' = true ∧ x.s.oneCell' = true ∧ x.l.oneCell' = true) (hd : d ≤ 16) : Calls Tryd.prog 106 #[x.agg] w (Ret (.int .i64 0) w) := by
  obtain ⟨k, n, s, l⟩ := x
  have HF := Lib.hid hf
  clear hf
  have HB : Hid (Blk (w.alloc (.cells #[.int .i64 k, n, s, l] 93)) w.heap.size 93 #[.int .i64 k, n, s, l]) := Blk.new _ _ _
  show Calls Tryd.prog 106 #[.agg #[.int .i64 k, n, s, l]] w (Ret (.int .i64 0) w)
  go_enter Tryd.func106, Tryd.ntmps106
  go_wp2_with fail
-- TAIL
  refine (HF.out _ ((Below.refl _ w).alloc (Nat.le_refl _) _)).mono ?_
  rintro e w2 ⟨⟨d', hd', rfl⟩, hb⟩
  have hB := ((Below.refl _ w).alloc (Nat.le_refl _) (.cells #[.int .i64 k, n, s, l] 93)).trans (hb.mono (by simp))
  have hd16 : d' ≤ 16 := by omega
  clear hb hd'
  go_wp2_with fail
  go_ret
  exact ⟨rfl, hB⟩

theorem own_weaken {w : World} {base base' : Nat} {e : TypeId} {size : Nat} {v : Value} {n : Nat} {xs : List Value} (h : w.ownsRow base e size v n xs) (hb : base' ≤ base) : w.ownsRow base' e size v n xs := by
  refine ⟨h.1, ?_⟩
  rcases h.2 with h2 | ⟨g, cap, cur, e1, h2, h3⟩
  · exact .inl h2
  · exact .inr ⟨g, cap, cur, e1, Nat.le_trans hb h2, h3⟩
def EncPost (e : List UInt8) (w : World) (en : Ending) (w' : World) : Prop := ∃ v, en = .returned (.tuple #[v, .int .i64 0]) ∧ w'.ownsRow w.heap.size 5 1 v e.length (bcells e) ∧ Below w.heap.size w w'
set_option maxRecDepth 100000 in
set_option maxHeartbeats 2000000 in
theorem encode_ok (x : V4) (d : Nat) (e : List UInt8) (w : World) (hx : Enc w x d e) (hd : d ≤ 16) (he : e.length + 16 ≤ 140737488355328) : Calls Tryd.prog 69 #[x.agg] w (EncPost e w) := by
  obtain ⟨hkind, h1, hf, hw⟩ := hx
  obtain ⟨k, n, s, l⟩ := x
  rcases hkind with hkind | hkind | hkind
  · obtain rfl : k = 1 := hkind
    have HFc : ∀ w', Below w.heap.size w w' → Calls Tryd.prog 106 #[.agg #[.int .i64 1, n, s, l]] w' (Ret (.int .i64 0) w') := fun w' hb => check_ok ⟨1, n, s, l⟩ d w' (hf.later hb) h1 hd
    show Calls Tryd.prog 69 #[.agg #[.int .i64 1, n, s, l]] w (EncPost e w)
    have HFC := Lib.hid HFc
    have HFW := Lib.hid hw
    clear HFc hf hw
    go_enter Tryd.func69, Tryd.ntmps69
    go_wp2_with fail
    have hB0 : Below w.heap.size w (w.alloc (.cells #[.int .i64 1, n, s, l] 93)) := (Below.refl _ w).alloc (Nat.le_refl _) _
    have hX0 : Blk (w.alloc (.cells #[.int .i64 1, n, s, l] 93)) w.heap.size 93 #[.int .i64 1, n, s, l] := Blk.new _ _ _
    generalize w.alloc (.cells #[.int .i64 1, n, s, l] 93) = w1 at hB0 hX0 ⊢
    refine (HFC.out w1 hB0).mono ?_
    rintro e1 w2 ⟨rfl, hb2⟩
    have hB2 := hB0.trans (hb2.mono hB0.size)
    have hX2 := hX0.below hb2 hX0.lt
    have hlt := hX2.lt
    clear hB0 hX0 hb2
    go_wp2_with fail
    have d0 : w2.cell? ⟨w.heap.size, 0, none⟩ = some (.int .i64 1) := hX2.cell 0
    have d1 : w2.cell? ⟨w.heap.size, 1, none⟩ = some n := hX2.cell 1
    have d2 : w2.cell? ⟨w.heap.size, 2, none⟩ = some s := hX2.cell 2
    have d3 : w2.cell? ⟨w.heap.size, 3, none⟩ = some l := hX2.cell 3
    clear hX2
    go_region_with (first
        | (go_at_call 107; refine (newWriter_any _).mono ?_; rintro e3 w3 ⟨gb, gt, rfl, hW, hgb, hgt, hb3⟩; have g1 := hW.one; have d4 : w3.cell? ⟨w.heap.size, 0, none⟩ = some (.int .i64 1) := (hb3.cell (p := ⟨w.heap.size, 0, none⟩) hlt).trans d0; have d5 : w3.cell? ⟨w.heap.size, 1, none⟩ = some n := (hb3.cell (p := ⟨w.heap.size, 1, none⟩) hlt).trans d1; have d6 : w3.cell? ⟨w.heap.size, 2, none⟩ = some s := (hb3.cell (p := ⟨w.heap.size, 2, none⟩) hlt).trans d2; have d7 : w3.cell? ⟨w.heap.size, 3, none⟩ = some l := (hb3.cell (p := ⟨w.heap.size, 3, none⟩) hlt).trans d3; have hB3 : Below w.heap.size w w3 := hB2.drew.trans (hb3.mono hB2.size))
        | (go_at_call 122; have hcall : Calls Tryd.prog 122 #[.slice none 0 0, .agg #[.int .i64 1, n, s, l]] w3 (Onto w3.heap.size (.slice none 0 0) 0 [] e w3) := HFW.out w3 w3.heap.size gb gt _ 0 [] hB3 hB3.size (Nat.le_refl _) hW hgb hgt (World.ownsRow_nil _ _ _ _) (by omega); refine hcall.mono ?_; rintro e5 w5 ⟨v5, rfl, hown5, hg5⟩; have hb5 := hg5.below (Nat.le_refl _) (fun k hk => by cases hk)))
    all_goals
      go_wp2
      go_ret2
      refine ⟨v5, rfl, ?_, hB3.trans (hb5.mono hB3.size)⟩
      have h := own_weaken hown5 hB3.size
      simpa using h
  · obtain rfl : k = 2 := hkind
    have HFc : ∀ w', Below w.heap.size w w' → Calls Tryd.prog 106 #[.agg #[.int .i64 2, n, s, l]] w' (Ret (.int .i64 0) w') := fun w' hb => check_ok ⟨2, n, s, l⟩ d w' (hf.later hb) h1 hd
    show Calls Tryd.prog 69 #[.agg #[.int .i64 2, n, s, l]] w (EncPost e w)
    have HFC := Lib.hid HFc
    have HFW := Lib.hid hw
    clear HFc hf hw
    go_enter Tryd.func69, Tryd.ntmps69
    go_wp2_with fail
    have hB0 : Below w.heap.size w (w.alloc (.cells #[.int .i64 2, n, s, l] 93)) := (Below.refl _ w).alloc (Nat.le_refl _) _
    have hX0 : Blk (w.alloc (.cells #[.int .i64 2, n, s, l] 93)) w.heap.size 93 #[.int .i64 2, n, s, l] := Blk.new _ _ _
    generalize w.alloc (.cells #[.int .i64 2, n, s, l] 93) = w1 at hB0 hX0 ⊢
    refine (HFC.out w1 hB0).mono ?_
    rintro e1 w2 ⟨rfl, hb2⟩
    have hB2 := hB0.trans (hb2.mono hB0.size)
    have hX2 := hX0.below hb2 hX0.lt
    have hlt := hX2.lt
    clear hB0 hX0 hb2
    go_wp2_with fail
    have d0 : w2.cell? ⟨w.heap.size, 0, none⟩ = some (.int .i64 2) := hX2.cell 0
    have d1 : w2.cell? ⟨w.heap.size, 1, none⟩ = some n := hX2.cell 1
    have d2 : w2.cell? ⟨w.heap.size, 2, none⟩ = some s := hX2.cell 2
    have d3 : w2.cell? ⟨w.heap.size, 3, none⟩ = some l := hX2.cell 3
    clear hX2
    go_region_with (first
        | (go_at_call 107; refine (newWriter_any _).mono ?_; rintro e3 w3 ⟨gb, gt, rfl, hW, hgb, hgt, hb3⟩; have g1 := hW.two; have d4 : w3.cell? ⟨w.heap.size, 0, none⟩ = some (.int .i64 2) := (hb3.cell (p := ⟨w.heap.size, 0, none⟩) hlt).trans d0; have d5 : w3.cell? ⟨w.heap.size, 1, none⟩ = some n := (hb3.cell (p := ⟨w.heap.size, 1, none⟩) hlt).trans d1; have d6 : w3.cell? ⟨w.heap.size, 2, none⟩ = some s := (hb3.cell (p := ⟨w.heap.size, 2, none⟩) hlt).trans d2; have d7 : w3.cell? ⟨w.heap.size, 3, none⟩ = some l := (hb3.cell (p := ⟨w.heap.size, 3, none⟩) hlt).trans d3; have hB3 : Below w.heap.size w w3 := hB2.drew.trans (hb3.mono hB2.size))
        | (go_at_call 125; have hcall : Calls Tryd.prog 125 #[.slice none 0 0, .agg #[.int .i64 2, n, s, l]] w3 (Onto w3.heap.size (.slice none 0 0) 0 [] e w3) := HFW.out w3 w3.heap.size gb gt _ 0 [] hB3 hB3.size (Nat.le_refl _) hW hgb hgt (World.ownsRow_nil _ _ _ _) (by omega); refine hcall.mono ?_; rintro e5 w5 ⟨v5, rfl, hown5, hg5⟩; have hb5 := hg5.below (Nat.le_refl _) (fun k hk => by cases hk)))
    all_goals
      go_wp2
      go_ret2
      refine ⟨v5, rfl, ?_, hB3.trans (hb5.mono hB3.size)⟩
      have h := own_weaken hown5 hB3.size
      simpa using h
  · obtain rfl : k = 3 := hkind
    have HFc : ∀ w', Below w.heap.size w w' → Calls Tryd.prog 106 #[.agg #[.int .i64 3, n, s, l]] w' (Ret (.int .i64 0) w') := fun w' hb => check_ok ⟨3, n, s, l⟩ d w' (hf.later hb) h1 hd
    show Calls Tryd.prog 69 #[.agg #[.int .i64 3, n, s, l]] w (EncPost e w)
    have HFC := Lib.hid HFc
    have HFW := Lib.hid hw
    clear HFc hf hw
    go_enter Tryd.func69, Tryd.ntmps69
    go_wp2_with fail
    have hB0 : Below w.heap.size w (w.alloc (.cells #[.int .i64 3, n, s, l] 93)) := (Below.refl _ w).alloc (Nat.le_refl _) _
    have hX0 : Blk (w.alloc (.cells #[.int .i64 3, n, s, l] 93)) w.heap.size 93 #[.int .i64 3, n, s, l] := Blk.new _ _ _
    generalize w.alloc (.cells #[.int .i64 3, n, s, l] 93) = w1 at hB0 hX0 ⊢
    refine (HFC.out w1 hB0).mono ?_
    rintro e1 w2 ⟨rfl, hb2⟩
    have hB2 := hB0.trans (hb2.mono hB0.size)
    have hX2 := hX0.below hb2 hX0.lt
    have hlt := hX2.lt
    clear hB0 hX0 hb2
    go_wp2_with fail
    have d0 : w2.cell? ⟨w.heap.size, 0, none⟩ = some (.int .i64 3) := hX2.cell 0
    have d1 : w2.cell? ⟨w.heap.size, 1, none⟩ = some n := hX2.cell 1
    have d2 : w2.cell? ⟨w.heap.size, 2, none⟩ = some s := hX2.cell 2
    have d3 : w2.cell? ⟨w.heap.size, 3, none⟩ = some l := hX2.cell 3
    clear hX2
    go_region_with (first
        | (go_at_call 107; refine (newWriter_any _).mono ?_; rintro e3 w3 ⟨gb, gt, rfl, hW, hgb, hgt, hb3⟩; have g1 := hW.three; have d4 : w3.cell? ⟨w.heap.size, 0, none⟩ = some (.int .i64 3) := (hb3.cell (p := ⟨w.heap.size, 0, none⟩) hlt).trans d0; have d5 : w3.cell? ⟨w.heap.size, 1, none⟩ = some n := (hb3.cell (p := ⟨w.heap.size, 1, none⟩) hlt).trans d1; have d6 : w3.cell? ⟨w.heap.size, 2, none⟩ = some s := (hb3.cell (p := ⟨w.heap.size, 2, none⟩) hlt).trans d2; have d7 : w3.cell? ⟨w.heap.size, 3, none⟩ = some l := (hb3.cell (p := ⟨w.heap.size, 3, none⟩) hlt).trans d3; have hB3 : Below w.heap.size w w3 := hB2.drew.trans (hb3.mono hB2.size))
        | (go_at_call 126; have hcall : Calls Tryd.prog 126 #[.slice none 0 0, .agg #[.int .i64 3, n, s, l], .pointer (some ⟨gb, 0, none⟩)] w3 (Onto w3.heap.size (.slice none 0 0) 0 [] e w3) := HFW.out w3 w3.heap.size gb gt _ 0 [] hB3 hB3.size (Nat.le_refl _) hW hgb hgt (World.ownsRow_nil _ _ _ _) (by omega); refine hcall.mono ?_; rintro e5 w5 ⟨v5, rfl, hown5, hg5⟩; have hb5 := hg5.below (Nat.le_refl _) (fun k hk => by cases hk)))
    all_goals
      go_wp2
      go_ret2
      refine ⟨v5, rfl, ?_, hB3.trans (hb5.mono hB3.size)⟩
      have h := own_weaken hown5 hB3.size
      simpa using h
end Go.Proofs.YtibnikokgbfcdaaDoor

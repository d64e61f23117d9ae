/- Walks: podiumref01.Check, encode, Encode. -/
import Derived.Test.YtibnikokgbfcdaaDoorR1
namespace Go.Proofs.YtibnikokgbfcdaaDoor
open Go.RowKit

set_option maxRecDepth 100000 in
set_option maxHeartbeats 1000000 in
theorem rcheck_ok (x : V4) (d : Nat) (w : World) (hf : RForm x w) (hdp : RDeep x d w) (h1 : x.n.oneCell' = true ∧ x.s.oneCell' = true ∧ x.l.oneCell' = true) (hd : d ≤ 16) : Calls Tryd.prog 110 #[x.agg] w (Ret (.int .i64 0) w) := by
  obtain ⟨k, n, s, l⟩ := x
  have HF := Lib.hid hf
  have HD := Lib.hid hdp
  clear hf hdp
  show Calls Tryd.prog 110 #[.agg #[.int .i64 k, n, s, l]] w (Ret (.int .i64 0) w)
  go_enter Tryd.func110, Tryd.ntmps110
  go_wp2_with fail
  have hX0 : Blk (w.alloc (.cells #[.int .i64 k, n, s, l] 93)) w.heap.size 93 #[.int .i64 k, n, s, l] := Blk.new _ _ _
  have hB0 : Below w.heap.size w (w.alloc (.cells #[.int .i64 k, n, s, l] 93)) := (Below.refl _ w).alloc (Nat.le_refl _) _
  generalize w.alloc (.cells #[.int .i64 k, n, s, l] 93) = w1 at hX0 hB0 ⊢
  refine (HF.out w1 hB0).mono ?_
  rintro e w2 ⟨rfl, hb⟩
  have hX2 := hX0.below hb hX0.lt
  have hB2 := hB0.trans (hb.mono hB0.size)
  have d0 : w2.cell? ⟨w.heap.size, 0, none⟩ = some (.int .i64 k) := hX2.cell 0
  have d1 : w2.cell? ⟨w.heap.size, 1, none⟩ = some n := hX2.cell 1
  have d2 : w2.cell? ⟨w.heap.size, 2, none⟩ = some s := hX2.cell 2
  have d3 : w2.cell? ⟨w.heap.size, 3, none⟩ = some l := hX2.cell 3
  clear hX0 hB0 hb hX2
  go_wp2_with fail
  refine (HD.out w2 hB2).mono ?_
  rintro e w3 ⟨⟨d', hd', rfl⟩, hb⟩
  have hB3 := hB2.trans (hb.mono hB2.size)
  have hd16 : d' ≤ 16 := by omega
  clear d0 d1 d2 d3 hb hd'
  go_wp2_with fail
  go_ret
  exact ⟨rfl, hB3⟩

def RWrit (x : V4) (e : List UInt8) (w : World) : Prop := ∀ w', Below w.heap.size w w' → Calls Tryd.prog 111 #[x.agg] w' (OwnPost e w')

set_option maxRecDepth 100000 in
set_option maxHeartbeats 1000000 in
theorem rencode_int (k : Nat) (hk : k ≤ 4611686018427387000) (w : World) : Calls Tryd.prog 111 #[.agg #[.int .i64 1, .int .i64 k, .string ⟨#[]⟩, .slice none 0 0]] w (OwnPost (intB k) w) := by
  have HU := Lib.hid (fun W => runsigned_any k W hk)
  have HN := Lib.hid (fun W => rnumeral_any 10 (2 * k) (by omega) (by decide) (by omega) W)
  have hlen := numB_len10 (2 * k) (by omega)
  go_enter Tryd.func111, Tryd.ntmps111
  go_wp2_with fail
  have hB0 : Below w.heap.size w ((w.alloc (.cells #[.int .i64 1, .int .i64 k, .string ⟨#[]⟩, .slice none 0 0] 93)).alloc (.cells #[.int .u8 1] 5)) := ((Below.refl _ w).alloc (Nat.le_refl _) _).alloc (by simp) _
  have hO0 := own_byte_new (w.alloc (.cells #[.int .i64 1, .int .i64 k, .string ⟨#[]⟩, .slice none 0 0] 93)) w.heap.size (by simp) 1 1 rfl
  simp only [World.size_alloc] at hO0 ⊢
  generalize (w.alloc (.cells #[.int .i64 1, .int .i64 k, .string ⟨#[]⟩, .slice none 0 0] 93)).alloc (.cells #[.int .u8 1] 5) = w1 at hB0 hO0 ⊢
  refine (HU.out _).mono ?_
  rintro e w2 ⟨rfl, rfl⟩
  go_wp2_with fail
  refine (HN.out _).mono ?_
  rintro e w2 ⟨v2, rfl, hown2, hb2⟩
  have hO2 := own_below hO0 hb2
  have hB2 := hB0.trans (hb2.mono hB0.size)
  obtain ⟨-, A2, c2, rfl, hc2, hc2', hr2⟩ := own_slice hown2
  clear hB0 hO0 hb2 hown2
  go_wp2_with (at_builtin; refine app_bytes _ rfl _ _ 39 rfl w.heap.size _ 1 [B8 1] rfl hO2 _ _ (bcells (numB (2 * k))) rfl (src_bytes _ hr2) (by omega) hB2.size ?_; intro v3 w3 hown3 hg3)
  go_ret
  refine ⟨v3, rfl, ?_, hB2.trans (hg3.below hB2.size fun k hk => (hO2.lt k hk).1)⟩
  rw [intB, List.length_cons, Nat.add_comm _ 1, bcells_cons]
  exact hown3

set_option maxRecDepth 100000 in
set_option maxHeartbeats 1000000 in
theorem rencode_text (s : ByteArray) (hs : s.size ≤ 140737488000000) (w : World) : Calls Tryd.prog 111 #[.agg #[.int .i64 2, .int .i64 0, .string s, .slice none 0 0]] w (OwnPost (textB s.data.toList) w) := by
  have HN := Lib.hid (fun W => rnumeral_any 10 s.size (by omega) (by decide) (by omega) W)
  have hlen := numB_len10 s.size (by omega)
  have hwr : IntKind.u64.wrap (s.size : Int) = s.size := by rw [IntKind.wrap_u64]; omega
  go_enter Tryd.func111, Tryd.ntmps111
  go_wp2_with fail
  have hc : (w.alloc (.cells #[.int .i64 2, .int .i64 0, .string s, .slice none 0 0] 93)).cell? ⟨w.heap.size, 2, none⟩ = some (.string s) := (Blk.new w _ _).cell 2
  have hB1 : Below w.heap.size w (w.alloc (.cells #[.int .i64 2, .int .i64 0, .string s, .slice none 0 0] 93)) := (Below.refl _ w).alloc (Nat.le_refl _) _
  have hlt : w.heap.size < (w.alloc (.cells #[.int .i64 2, .int .i64 0, .string s, .slice none 0 0] 93)).heap.size := by simp
  generalize w.alloc (.cells #[.int .i64 2, .int .i64 0, .string s, .slice none 0 0] 93) = w1 at hc hB1 hlt ⊢
  go_region_held3 (fun w' => w'.cell? ⟨w.heap.size, 2, none⟩ = some (.string s)) (first | exact hc5 | exact hc4 | exact hc3 | exact hc | go_keep)
    ((first
      | (go_at_call 129; refine (HN.out (w1.drew.alloc (.cells #[.int .u8 2] 5))).mono ?_; rintro e w3 ⟨v3, rfl, hown3, hb3⟩
         have hO3 := own_below (own_byte_new w1.drew w1.heap.size (Nat.le_refl _) 2 2 rfl) hb3
         have hc3 : w3.cell? ⟨w.heap.size, 2, none⟩ = some (.string s) := (hb3.cell (p := ⟨w.heap.size, 2, none⟩) (Nat.lt_of_lt_of_le hlt (by simp))).trans ((World.cell?_alloc_lt w1.drew _ _ hlt).trans hc)
         have hB3 : Below w1.heap.size w1 w3 := (((Below.refl _ w1).drew).alloc (Nat.le_refl _) _).trans (hb3.mono (by simp))
         have hl3 : w.heap.size < w3.heap.size := Nat.lt_of_lt_of_le hlt hB3.size
         obtain ⟨-, A3, c3, rfl, -, -, hr3⟩ := own_slice hown3
         have hs3 := src_bytes w3 (c := c3) hr3)
      | (go_at_call 129; refine (HN.out w1.drew).mono ?_; rintro e w2 ⟨v3, rfl, hown3, hb3⟩
         have hc2 : w2.cell? ⟨w.heap.size, 2, none⟩ = some (.string s) := (hb3.cell (p := ⟨w.heap.size, 2, none⟩) hlt).trans hc
         have hB2 : Below w1.heap.size w1 w2 := (Below.refl _ w1).drew.trans hb3
         have hl2 : w.heap.size < w2.heap.size := Nat.lt_of_lt_of_le hlt hB2.size
         obtain ⟨-, A3, c3, rfl, -, -, hr3⟩ := own_slice hown3
         have hO3 := own_byte_new w2 w1.heap.size hB2.size 2 2 rfl
         have hs3 : Src Tryd.prog 1 39 (.slice A3 (numB s.size).length c3) (numB s.size).length (bcells (numB s.size)) (w2.alloc (.cells #[.int .u8 2] 5)) := src_bytes _ (hr3.alloc (Nat.le_refl _) _)
         have hc3 : (w2.alloc (.cells #[.int .u8 2] 5)).cell? ⟨w.heap.size, 2, none⟩ = some (.string s) := (World.cell?_alloc_lt _ _ _ hl2).trans hc2
         have hB3 := hB2.alloc hB2.size (.cells #[.int .u8 2] 5)
         have hl3 : w.heap.size < (w2.alloc (.cells #[.int .u8 2] 5)).heap.size := Nat.lt_of_lt_of_le hlt hB3.size)
      | (refine step_app rfl _ _ 39 rfl w1.heap.size _ _ 1 [B8 2] hO3 rfl _ _ (bcells (numB s.size)) hs3 rfl (by omega) hB3.size ?_
         intro v4 w4 hown4 hg4
         have hne3 : some w.heap.size ≠ Value.ownBlock _ := fun e => by have := (hO3.lt _ e.symm).1; omega
         have hc4 : w4.cell? ⟨w.heap.size, 2, none⟩ = some (.string s) := hg4.1.cell (a := ⟨w.heap.size, 2, none⟩) hc3 hne3
         have hB4 := hB3.trans (hg4.below hB3.size fun k hk => (hO3.lt k hk).1))
      | (refine step_app rfl _ _ 9 rfl w1.heap.size _ _ _ _ hown4 rfl _ s.size _ (src_string _ s) rfl (by omega) hB4.size ?_
         intro v5 w5 hown5 hg5
         have hne4 : some w.heap.size ≠ Value.ownBlock _ := fun e => by have := (hown4.lt _ e.symm).1; omega
         have hc5 : w5.cell? ⟨w.heap.size, 2, none⟩ = some (.string s) := hg5.1.cell (a := ⟨w.heap.size, 2, none⟩) hc4 hne4
         have hB5 := hB4.trans (hg5.below hB4.size fun k hk => (hown4.lt k hk).1))))
  all_goals
    go_wp2
    go_ret
    have e1 : (textB s.data.toList).length = 1 + (numB s.size).length + s.size := by
      rw [textB, List.length_cons, List.length_append]
      show (numB s.size).length + s.size + 1 = _
      omega
    have e2 : bcells (textB s.data.toList) = [B8 2] ++ bcells (numB s.size) ++ bcells s.data.toList := by
      rw [textB, bcells_cons, bcells_append]
      rfl
    refine ⟨v5, rfl, ?_, hB1.trans (hB5.mono hB1.size)⟩
    rw [e1, e2]
    exact own_weaken hown5 hB1.size

set_option maxRecDepth 100000 in
set_option maxHeartbeats 2000000 in
theorem rencode_list (A : Option Addr) (l : List V4) (es : List (List UInt8)) (c : Nat) (w : World) (hes : l.length = es.length) (hE : Elems w w.heap.size A l) (hl : l.length ≤ c) (hc : c ≤ 9223372036854775807) (hsz : (listB es).length + 16 ≤ 140737488355328)
    (h1 : ∀ x ∈ l, x.n.oneCell' = true ∧ x.s.oneCell' = true ∧ x.l.oneCell' = true) (hf : ∀ (i : Nat) x e, l[i]? = some x → es[i]? = some e → RWrit x e w) :
    Calls Tryd.prog 111 #[(V4.list A l.length c).agg] w (OwnPost (listB es) w) := by
  show Calls Tryd.prog 111 #[.agg #[.int .i64 3, .int .i64 0, .string ⟨#[]⟩, .slice A l.length c]] w (OwnPost (listB es) w)
  obtain ⟨m, hm⟩ : ∃ m, m = l.length := ⟨_, rfl⟩
  rw [← hm] at hl hes ⊢
  have hll : (listB es).length = 1 + (numB m).length + es.flatten.length := by rw [listB, List.length_cons, List.length_append, ← hes]; omega
  have hm64 : m < 18446744073709551616 := by omega
  have hwr : IntKind.u64.wrap (m : Int) = m := by rw [IntKind.wrap_u64]; omega
  have HN := Lib.hid (fun W => rnumeral_any 10 m (by omega) (by decide) (by omega) W)
  have HM := Lib.hid hm
  have HES := Lib.hid hes
  have HF := Lib.hid hf
  have H1 := Lib.hid h1
  have HE := Lib.hid hE
  have HLL := Lib.hid hll
  have hlen := numB_len10 m (by omega)
  clear hm hes hf h1 hE hll
  go_enter Tryd.func111, Tryd.ntmps111
  go_wp2_with fail
  have hB0 : Below w.heap.size w ((w.alloc (.cells #[.int .i64 3, .int .i64 0, .string ⟨#[]⟩, .slice A m c] 93)).alloc (.cells #[.int .u8 3] 5)) := ((Below.refl _ w).alloc (Nat.le_refl _) _).alloc (by simp) _
  have hX0 : Blk ((w.alloc (.cells #[.int .i64 3, .int .i64 0, .string ⟨#[]⟩, .slice A m c] 93)).alloc (.cells #[.int .u8 3] 5)) w.heap.size 93 #[.int .i64 3, .int .i64 0, .string ⟨#[]⟩, .slice A m c] := (Blk.new _ _ _).alloc _
  have hO0 := own_byte_new (w.alloc (.cells #[.int .i64 3, .int .i64 0, .string ⟨#[]⟩, .slice A m c] 93)) (w.heap.size + 1) (by simp) 3 3 rfl
  simp only [World.size_alloc] at hO0 ⊢
  generalize (w.alloc (.cells #[.int .i64 3, .int .i64 0, .string ⟨#[]⟩, .slice A m c] 93)).alloc (.cells #[.int .u8 3] 5) = w1 at hB0 hX0 hO0 ⊢
  refine (HN.out _).mono ?_
  rintro e w2 ⟨v2, rfl, hown2, hb2⟩
  have hO2 := own_below hO0 hb2
  have hX2 := hX0.below hb2 hX0.lt
  have hB2 := hB0.trans (hb2.mono hB0.size)
  have hsz2 : w.heap.size + 1 ≤ w2.heap.size := hX2.lt
  obtain ⟨-, A2, c2, rfl, hc2, hc2', hr2⟩ := own_slice hown2
  clear hB0 hO0 hb2 hown2 hX0
  go_wp2_with (at_builtin; refine app_bytes _ rfl _ _ 39 rfl (w.heap.size + 1) _ 1 [B8 3] rfl hO2 _ _ (bcells (numB m)) rfl (src_bytes _ hr2) (by omega) hsz2 ?_; intro v3 w3 hown3 hg3)
  have hX3 := hX2.grown hg3.1 (fun e => by have := (hO2.lt _ e.symm).1; omega)
  have hB3 := hB2.trans (hg3.below hB2.size fun k hk => by have := (hO2.lt k hk).1; omega)
  clear hX2 hB2 hO2 hg3 hr2
  go_wp2_with fail
  go_loopw [3, 4] (fun b i wr => ∃ j : Nat, j ≤ m ∧ i = .int .i64 j ∧ wr.ownsRow (w.heap.size + 1) 5 1 b (1 + (numB m).length + (es.take j).flatten.length) ([B8 3] ++ bcells (numB m) ++ bcells (es.take j).flatten) ∧ Blk wr w.heap.size 93 #[.int .i64 3, .int .i64 0, .string ⟨#[]⟩, .slice A m c] ∧ Below w.heap.size w wr) (fun _ i _ => m - (intOf i).toNat)
  case atStart => exact ⟨0, by omega, rfl, by simpa [bcells] using hown3, hX3, hB3⟩
  case round =>
    clear hown3 hX3 hB3
    obtain ⟨j, hj, rfl, hown, hX, hB⟩ := hrel
    have hXl := hX.lt
    have d3 : wr.cell? ⟨w.heap.size, 3, none⟩ = some (.slice A m c) := hX.cell 3
    have HX := Lib.hid hX
    clear hX
    by_cases hlt : j < m
    · obtain ⟨b, off, rfl, hbl, hcells⟩ := HE.out (by rw [← HM.out]; omega)
      obtain ⟨x, hx⟩ : ∃ x, l[j]? = some x := ⟨_, List.getElem?_eq_getElem (by rw [← HM.out]; exact hlt)⟩
      obtain ⟨e, he⟩ : ∃ e, es[j]? = some e := ⟨_, List.getElem?_eq_getElem (by rw [← HES.out]; exact hlt)⟩
      obtain ⟨c0, c1, c2, c3⟩ := hcells j x hx
      have c0' := (hB.cell (p := ⟨b, _, none⟩) hbl).trans c0
      have c1' := (hB.cell (p := ⟨b, _, none⟩) hbl).trans c1
      have c2' := (hB.cell (p := ⟨b, _, none⟩) hbl).trans c2
      have c3' := (hB.cell (p := ⟨b, _, none⟩) hbl).trans c3
      have hflat : (es.take (j + 1)).flatten = (es.take j).flatten ++ e := by
        rw [List.take_add_one, he, List.flatten_append]; simp
      have hle : (es.take (j + 1)).flatten.length ≤ es.flatten.length := by
        conv => rhs; rw [← List.take_append_drop (j + 1) es, List.flatten_append, List.length_append]
        omega
      rw [hflat, List.length_append] at hle
      have hroom : 1 + (numB m).length + (es.take j).flatten.length + e.length ≤ 140737488355328 := by have := HLL.out; omega
      have HW := Lib.hid (HF.out j x e hx he)
      have HFL := Lib.hid hflat
      clear c0 c1 c2 c3 hx he hcells hflat hle
      go_wp2_with fail
      refine (HW.out _ hB).mono ?_
      rintro en w2 ⟨v2, rfl, hown2, hb2⟩
      have hX2 := HX.out.below hb2 hXl
      have hB2 := hB.trans (hb2.mono hB.size)
      have hO2 := own_below hown hb2
      obtain ⟨-, A2, c2, rfl, hc2, hc2', hr2⟩ := own_slice hown2
      have hsz2 : w.heap.size + 1 ≤ w2.heap.size := hX2.lt
      clear c0' c1' c2' c3' hb2 hB d3 hown hown2
      go_wp2_with (at_builtin; refine app_bytes _ rfl _ _ 39 rfl (w.heap.size + 1) _ _ _ rfl hO2 _ _ (bcells e) rfl (src_bytes _ hr2) hroom hsz2 ?_; intro v3 w3 hown3 hg3)
      go_roundw
      case rel =>
        refine ⟨j + 1, by omega, by go_num, ?_, hX2.grown hg3.1 (fun e => by have := (hO2.lt _ e.symm).1; omega), hB2.trans (hg3.below hB2.size fun k hk => by have := (hO2.lt k hk).1; omega)⟩
        rw [HFL.out, List.length_append, bcells_append, ← Nat.add_assoc, ← List.append_assoc]
        exact hown3
      case measure => simp [intOf]; omega
    · obtain rfl : j = m := by omega
      go_wp2_with fail
      go_ret
      refine ⟨_, rfl, ?_, hB⟩
      have e1 : es.take j = es := List.take_of_length_le (by have := HES.out; omega)
      rw [e1] at hown
      have e2 : bcells (listB es) = [B8 3] ++ bcells (numB j) ++ bcells es.flatten := by
        rw [listB, bcells_cons, bcells_append, ← HES.out]; rfl
      rw [e2, HLL.out]
      exact own_weaken hown (Nat.le_succ _)

/-- The value x is encoded by the reference as the bytes e. -/
structure REnc (w : World) (x : V4) (d : Nat) (e : List UInt8) : Prop where
  one : x.n.oneCell' = true ∧ x.s.oneCell' = true ∧ x.l.oneCell' = true
  formed : RForm x w
  deep : RDeep x d w
  written : RWrit x e w
theorem REnc.later {w w' : World} {x : V4} {d : Nat} {e : List UInt8} (h : REnc w x d e) (hb : Below w.heap.size w w') : REnc w' x d e :=
  ⟨h.one, fun w2 h2 => h.formed w2 (hb.trans (h2.mono hb.size)), fun w2 h2 => h.deep w2 (hb.trans (h2.mono hb.size)), fun w2 h2 => h.written w2 (hb.trans (h2.mono hb.size))⟩
theorem renc_int (w : World) (k : Nat) (hk : k ≤ 4611686018427387000) : REnc w (V4.int k) 0 (intB k) := ⟨⟨rfl, rfl, rfl⟩, fun w' _ => rformed_int k w', fun w' _ => rdepth_leaf 1 (by decide) _ _ _ w', fun w' _ => rencode_int k hk w'⟩
theorem renc_text (w : World) (s : ByteArray) (hs : s.size ≤ 140737488000000) : REnc w (V4.text s) 0 (textB s.data.toList) := ⟨⟨rfl, rfl, rfl⟩, fun w' _ => rformed_text s w', fun w' _ => rdepth_leaf 2 (by decide) _ _ _ w', fun w' _ => rencode_text s hs w'⟩
theorem renc_list (w : World) (A : Option Addr) (l : List V4) (es : List (List UInt8)) (c d : Nat) (hes : l.length = es.length) (hE : Elems w w.heap.size A l) (hl : l.length ≤ c) (hc : c ≤ 9223372036854775807) (hsz : (listB es).length + 16 ≤ 140737488355328) (hd : d ≤ 1000000)
    (h : ∀ (i : Nat) x e, l[i]? = some x → es[i]? = some e → REnc w x d e) : REnc w (V4.list A l.length c) (d + 1) (listB es) := by
  have hx : ∀ x ∈ l, ∃ e, REnc w x d e := by
    intro x hx
    obtain ⟨i, hi, rfl⟩ := List.mem_iff_getElem.1 hx
    exact ⟨_, h i _ _ (List.getElem?_eq_getElem hi) (List.getElem?_eq_getElem (by omega))⟩
  have h1 : ∀ x ∈ l, x.n.oneCell' = true ∧ x.s.oneCell' = true ∧ x.l.oneCell' = true := fun x hm => by obtain ⟨e, he⟩ := hx x hm; exact he.one
  refine ⟨⟨rfl, rfl, rfl⟩, fun w' hb => ?_, fun w' hb => ?_, fun w' hb => ?_⟩
  · exact rformed_list A l c w' (hE.later hb) hl hc h1 fun x hm => by obtain ⟨e, he⟩ := hx x hm; exact (he.later hb).formed
  · exact rdepth_list A l c d w' (hE.later hb) hl hc hd h1 fun x hm => by obtain ⟨e, he⟩ := hx x hm; exact (he.later hb).deep
  · exact rencode_list A l es c w' hes (hE.later hb) hl hc hsz h1 fun i x e hi he => ((h i x e hi he).later hb).written

set_option maxRecDepth 100000 in
set_option maxHeartbeats 1000000 in
theorem rEncode_ok (x : V4) (d : Nat) (e : List UInt8) (w : World) (hx : REnc w x d e) (hd : d ≤ 16) : Calls Tryd.prog 72 #[x.agg] w (EncPost e w) := by
  have HC := Lib.hid (fun w' (hb : Below w.heap.size w w') => rcheck_ok x d w' (hx.later hb).formed (hx.later hb).deep hx.one hd)
  have HW := Lib.hid hx.written
  clear hx
  obtain ⟨k, n, s, l⟩ := x
  show Calls Tryd.prog 72 #[.agg #[.int .i64 k, n, s, l]] w (EncPost e w)
  go_enter Tryd.func72, Tryd.ntmps72
  go_wp2_with fail
  have hX0 : Blk (w.alloc (.cells #[.int .i64 k, n, s, l] 93)) w.heap.size 93 #[.int .i64 k, n, s, l] := Blk.new _ _ _
  have hB0 : Below w.heap.size w (w.alloc (.cells #[.int .i64 k, n, s, l] 93)) := (Below.refl _ w).alloc (Nat.le_refl _) _
  generalize w.alloc (.cells #[.int .i64 k, n, s, l] 93) = w1 at hX0 hB0 ⊢
  refine (HC.out w1 hB0).mono ?_
  rintro e1 w2 ⟨rfl, hb⟩
  have hX2 := hX0.below hb hX0.lt
  have hB2 := hB0.trans (hb.mono hB0.size)
  have d0 : w2.cell? ⟨w.heap.size, 0, none⟩ = some (.int .i64 k) := hX2.cell 0
  have d1 : w2.cell? ⟨w.heap.size, 1, none⟩ = some n := hX2.cell 1
  have d2 : w2.cell? ⟨w.heap.size, 2, none⟩ = some s := hX2.cell 2
  have d3 : w2.cell? ⟨w.heap.size, 3, none⟩ = some l := hX2.cell 3
  clear hX0 hB0 hb hX2
  go_wp2_with fail
  refine (HW.out w2 hB2).mono ?_
  rintro e2 w3 ⟨v3, rfl, hown3, hb3⟩
  have hB3 := hB2.trans (hb3.mono hB2.size)
  clear d0 d1 d2 d3
  go_wp2_with fail
  go_ret2
  exact ⟨v3, rfl, own_weaken hown3 hB2.size, hB3⟩
end Go.Proofs.YtibnikokgbfcdaaDoor

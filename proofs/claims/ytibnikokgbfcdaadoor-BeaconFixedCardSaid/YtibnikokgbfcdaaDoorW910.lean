/- Several texts in one: W9, W10. -/
import Derived.Test.YtibnikokgbfcdaaDoorLow
import Derived.StillTailTactics
/- Walk: codec.formed. -/
namespace Go.Proofs.YtibnikokgbfcdaaDoor
open Go.RowKit

def FormedPost (d : Nat) (w : World) (e : Ending) (w' : World) : Prop := (∃ d' : Nat, d' ≤ d ∧ e = .returned (.tuple #[.int .i64 d', .bool true])) ∧ Below w.heap.size w w'
set_option maxRecDepth 100000 in
set_option maxHeartbeats 1000000 in
theorem formed_int (k : Nat) (w : World) : Calls Tryd.prog 121 #[.agg #[.int .i64 1, .int .i64 k, .string ⟨#[]⟩, .slice none 0 0]] w (FormedPost 0 w) := by
  go_enter Tryd.func121, Tryd.ntmps121
  go_wp2
  all_goals
    go_ret2
    exact ⟨⟨0, Nat.le_refl _, rfl⟩, ((Below.refl _ w).alloc (Nat.le_refl _) _).alloc (by simp) _⟩
set_option maxRecDepth 100000 in
set_option maxHeartbeats 1000000 in
theorem formed_text (s : ByteArray) (w : World) : Calls Tryd.prog 121 #[.agg #[.int .i64 2, .int .i64 0, .string s, .slice none 0 0]] w (FormedPost 0 w) := by
  go_enter Tryd.func121, Tryd.ntmps121
  go_wp2
  all_goals
    go_ret2
    exact ⟨⟨0, Nat.le_refl _, rfl⟩, ((Below.refl _ w).alloc (Nat.le_refl _) _).alloc (by simp) _⟩

/-- The four cells of a value: its kind and three more. -/
structure V4 where
  kind : Nat
  n : Value
  s : Value
  l : Value
def V4.agg (x : V4) : Value := .agg #[.int .i64 x.kind, x.n, x.s, x.l]
def V4.int (k : Nat) : V4 := ⟨1, .int .i64 k, .string ⟨#[]⟩, .slice none 0 0⟩
def V4.text (s : ByteArray) : V4 := ⟨2, .int .i64 0, .string s, .slice none 0 0⟩
def V4.list (A : Option Addr) (m c : Nat) : V4 := ⟨3, .int .i64 0, .string ⟨#[]⟩, .slice A m c⟩
/-- The slice at A holds these values. -/
def Elems (w : World) (B : Nat) (A : Option Addr) (l : List V4) : Prop :=
  0 < l.length → ∃ b off, A = some ⟨b, off, none⟩ ∧ b < B ∧ ∀ i x, l[i]? = some x →
    w.cell? ⟨b, off + i * 4, none⟩ = some (.int .i64 x.kind) ∧ w.cell? ⟨b, off + i * 4 + 1, none⟩ = some x.n ∧ w.cell? ⟨b, off + i * 4 + 2, none⟩ = some x.s ∧ w.cell? ⟨b, off + i * 4 + 3, none⟩ = some x.l
theorem Elems.below {w w' : World} {B : Nat} {A : Option Addr} {l : List V4} (h : Elems w B A l) (hb : Below B w w') : Elems w' B A l := fun hn => by
  obtain ⟨b, off, e, hB, hc⟩ := h hn
  refine ⟨b, off, e, hB, fun i x hi => ?_⟩
  obtain ⟨h0, h1, h2, h3⟩ := hc i x hi
  exact ⟨(hb.cell (p := ⟨b, _, none⟩) hB).trans h0, (hb.cell (p := ⟨b, _, none⟩) hB).trans h1, (hb.cell (p := ⟨b, _, none⟩) hB).trans h2, (hb.cell (p := ⟨b, _, none⟩) hB).trans h3⟩

theorem one4 (k : Int) (a b c : Value) (ha : a.oneCell' = true) (hb : b.oneCell' = true) (hc : c.oneCell' = true) : (#[.int .i64 k, a, b, c] : Array Value).all (·.oneCell') = true :=
  Array.all_eq_true_iff_forall_mem.2 fun v hv => by
    have hv' : v = .int .i64 k ∨ v = a ∨ v = b ∨ v = c := by simpa using hv
    rcases hv' with rfl | rfl | rfl | rfl
    · rfl
    · exact ha
    · exact hb
    · exact hc
theorem valueSize : (Tryd.prog.info? 93).map (·.size) = some 4 := by kernel_rfl
def IsFormed (w : World) (x : V4) (d : Nat) : Prop := ∀ w', Below w.heap.size w w' → Calls Tryd.prog 121 #[x.agg] w' (FormedPost d w')

set_option maxRecDepth 100000 in
set_option maxHeartbeats 1000000 in
theorem formed_list (A : Option Addr) (l : List V4) (c d : Nat) (w : World) (hE : Elems w w.heap.size A l) (hl : l.length ≤ c) (hc : c ≤ 9223372036854775807) (hd : d ≤ 1000000)
    (h1 : ∀ x ∈ l, x.n.oneCell' = true ∧ x.s.oneCell' = true ∧ x.l.oneCell' = true) (hf : ∀ x ∈ l, IsFormed w x d) :
    Calls Tryd.prog 121 #[(V4.list A l.length c).agg] w (FormedPost (d + 1) w) := by
  show Calls Tryd.prog 121 #[.agg #[.int .i64 3, .int .i64 0, .string ⟨#[]⟩, .slice A l.length c]] w (FormedPost (d + 1) w)
  obtain ⟨m, hm⟩ : ∃ m, m = l.length := ⟨_, rfl⟩
  rw [← hm] at hl ⊢
  have HM := Lib.hid hm
  have HF := Lib.hid hf
  have H1 := Lib.hid h1
  clear hm hf h1
  by_cases h0 : m = 0
  · subst h0
    clear hE hl hc hd
    go_enter Tryd.func121, Tryd.ntmps121
    go_wp2_with fail
    go_loop [2, 57] (fun D i => D = .int .i64 0 ∧ i = .int .i64 0) (fun _ _ => 0)
    case atStart => exact ⟨rfl, rfl⟩
    case round =>
      obtain ⟨rfl, rfl⟩ := hrel
      go_wp2_with fail
      go_ret2
      exact ⟨⟨1, by omega, rfl⟩, ((Below.refl _ w).alloc (Nat.le_refl _) _).alloc (by simp) _⟩
  · have hp : 0 < m := by omega
    clear h0
    obtain ⟨b, off, rfl, hbl, hcells⟩ := hE (by rw [← HM.out]; exact hp)
    have HE := Lib.hid hcells
    clear hcells hE
    go_enter Tryd.func121, Tryd.ntmps121
    go_wp2_with fail
    go_loopw [2, 57] (fun D i wr => ∃ j d' : Nat, j ≤ m ∧ i = .int .i64 j ∧ d' ≤ d ∧ D = .int .i64 d' ∧ Below w.heap.size w wr) (fun _ i _ => m - (intOf i).toNat)
    case atStart => exact ⟨0, 0, by omega, rfl, by omega, rfl, ((Below.refl _ w).alloc (Nat.le_refl _) _).alloc (by simp) _⟩
    case round =>
      obtain ⟨j, d', hj, rfl, hd', rfl, hB⟩ := hrel
      by_cases hlt : j < m
      · obtain ⟨x, hx⟩ : ∃ x, l[j]? = some x := ⟨_, List.getElem?_eq_getElem (by rw [← HM.out]; exact hlt)⟩
        obtain ⟨c0, c1, c2, c3⟩ := HE.out j x hx
        have c0' := (hB.cell (p := ⟨b, _, none⟩) hbl).trans c0
        have c1' := (hB.cell (p := ⟨b, _, none⟩) hbl).trans c1
        have c2' := (hB.cell (p := ⟨b, _, none⟩) hbl).trans c2
        have c3' := (hB.cell (p := ⟨b, _, none⟩) hbl).trans c3
        have hmem := List.mem_of_getElem? hx
        have hone : (#[.int .i64 x.kind, x.n, x.s, x.l] : Array Value).all (·.oneCell') = true := by
          have := H1.out x hmem
          exact one4 _ _ _ _ this.1 this.2.1 this.2.2
        have HO := Lib.hid hone
        have HX := Lib.hid hx
        clear c0 c1 c2 c3 hone hx
        go_wp2_with (refine wpList_store_new rfl 93 _ _ rfl wr _ #[.int .i64 x.kind, x.n, x.s, x.l] 93 rfl rfl valueSize rfl HO.out ?_)
        have hB1 := hB.alloc hB.size (.cells #[.int .i64 x.kind, x.n, x.s, x.l] 93)
        refine (HF.out x hmem _ hB1).mono ?_
        rintro e w2 ⟨⟨d2, hd2, rfl⟩, hb2⟩
        have hB2 := hB1.trans (hb2.mono hB1.size)
        clear c0' c1' c2' c3' hB1 hb2 hB
        go_wp2_with fail
        go_roundw
        case rel => exact ⟨j + 1, max d' d2, by omega, by go_num, by omega, by first | rfl | (congr 1; omega), hB2⟩
        case measure => simp [intOf]; omega
      · obtain rfl : j = m := by omega
        go_wp2_with fail
        go_ret2
        exact ⟨⟨d' + 1, by omega, rfl⟩, hB⟩
end Go.Proofs.YtibnikokgbfcdaaDoor

/- Walk: the writer of lists. -/
namespace Go.Proofs.YtibnikokgbfcdaaDoor
open Go.RowKit

/-- The call by which a value of this kind is written. -/
def writeCall (k gb : Nat) (v x : Value) (w : World) (R : Ending → World → Prop) : Prop :=
  if k = 1 then Calls Tryd.prog 122 #[v, x] w R
  else if k = 2 then Calls Tryd.prog 125 #[v, x] w R
  else Calls Tryd.prog 126 #[v, x, .pointer (some ⟨gb, 0, none⟩)] w R
/-- The value x is written as the bytes e, in whatever world in which what lies below B is as in w. -/
def IsWritten (w : World) (x : V4) (e : List UInt8) : Prop :=
  ∀ (w' : World) (base gb gt : Nat) (v : Value) (n : Nat) (xs : List Value), Below w.heap.size w w' → w.heap.size ≤ base → base ≤ w'.heap.size → Writer w' gb gt → gb < base → gt < base →
    w'.ownsRow base 5 1 v n xs → n + e.length + 16 ≤ 140737488355328 → writeCall x.kind gb v x.agg w' (Onto base v n xs e w')
theorem written_int (w : World) (k : Nat) (hk : k ≤ 4611686018427387000) : IsWritten w (V4.int k) (intB k) := by
  intro w' base gb gt v n xs _ _ hb _ _ _ hown hn
  exact nw1_any base v n xs k _ _ _ w' hown hb hk (by rw [intB, List.length_cons] at hn; omega)
theorem written_text (w : World) (s : ByteArray) : IsWritten w (V4.text s) (textB s.data.toList) := by
  intro w' base gb gt v n xs _ _ hb _ _ _ hown hn
  refine nw2_any base v n xs s _ _ _ w' hown hb ?_
  rw [textB, List.length_cons, List.length_append] at hn
  have : s.data.toList.length = s.size := rfl
  omega

def kindOk (x : V4) : Prop := x.kind = 1 ∨ x.kind = 2 ∨ x.kind = 3

set_option maxRecDepth 100000 in
set_option maxHeartbeats 2000000 in
theorem nw3_any (A : Option Addr) (l : List V4) (es : List (List UInt8)) (c : Nat) (w w' : World) (base gb gt : Nat) (v : Value) (n : Nat) (xs : List Value) (hes : l.length = es.length)
    (hE : Elems w w.heap.size A l) (hl : l.length ≤ c) (hm47 : l.length ≤ 140737488355328)
    (h1 : ∀ x ∈ l, x.n.oneCell' = true ∧ x.s.oneCell' = true ∧ x.l.oneCell' = true) (hk : ∀ x ∈ l, kindOk x) (hw : ∀ (i : Nat) x e, l[i]? = some x → es[i]? = some e → IsWritten w x e)
    (hB : Below w.heap.size w w') (hwb : w.heap.size ≤ base) (hbase : base ≤ w'.heap.size) (hW : Writer w' gb gt) (hgb : gb < base) (hgt : gt < base) (hown : w'.ownsRow base 5 1 v n xs) (hn : n + (listB es).length + 16 ≤ 140737488355328) :
    Calls Tryd.prog 126 #[v, (V4.list A l.length c).agg, .pointer (some ⟨gb, 0, none⟩)] w' (Onto base v n xs (listB es) w') := by
  show Calls Tryd.prog 126 #[v, .agg #[.int .i64 3, .int .i64 0, .string ⟨#[]⟩, .slice A l.length c], .pointer (some ⟨gb, 0, none⟩)] w' (Onto base v n xs (listB es) w')
  obtain ⟨m, hm⟩ : ∃ m, m = l.length := ⟨_, rfl⟩
  rw [← hm] at hl hm47 hes ⊢
  have HM := Lib.hid hm
  have HES := Lib.hid hes
  have HW := Lib.hid hw
  have HK := Lib.hid hk
  have H1 := Lib.hid h1
  have hnl : (numB m).length ≤ 10 := numB_len10 m (by omega)
  have HNL := Lib.hid hnl
  have hll : (listB es).length = 1 + (numB m).length + es.flatten.length := by rw [listB, List.length_cons, List.length_append, ← hes]; omega
  have HLL := Lib.hid hll
  clear hm hw hk h1 hnl hll hes
  have hc3 : (w'.alloc (.cells #[.int .i64 3, .int .i64 0, .string ⟨#[]⟩, .slice A m c] 93)).cell? ⟨w'.heap.size, 3, none⟩ = some (.slice A m c) := (Blk.new w' _ _).cell 3
  have hown1 := hown.alloc (.cells #[.int .i64 3, .int .i64 0, .string ⟨#[]⟩, .slice A m c] 93)
  have hg1 : Grew w' (w'.alloc (.cells #[.int .i64 3, .int .i64 0, .string ⟨#[]⟩, .slice A m c] 93)) v v := Grew.of_below ((Below.refl _ w').alloc (Nat.le_refl _) _) v
  have hlt : w'.heap.size < (w'.alloc (.cells #[.int .i64 3, .int .i64 0, .string ⟨#[]⟩, .slice A m c] 93)).heap.size := by simp
  have hb1 : base ≤ (w'.alloc (.cells #[.int .i64 3, .int .i64 0, .string ⟨#[]⟩, .slice A m c] 93)).heap.size := by simp; omega
  have hvk : some w'.heap.size ≠ v.ownBlock := fun e => by have := (hown.lt _ e.symm).2; omega
  have hwr : IntKind.u64.wrap (m : Int) = m := by rw [IntKind.wrap_u64]; omega
  go_enter Tryd.func126, Tryd.ntmps126
  go_wp2_with fail
  generalize w'.alloc (.cells #[.int .i64 3, .int .i64 0, .string ⟨#[]⟩, .slice A m c] 93) = w1 at hc3 hown1 hg1 hb1 hlt ⊢
  go_region_held3 (fun W => W.cell? ⟨w'.heap.size, 3, none⟩ = some (.slice A m c)) (first | exact hc4 | exact hc2 | go_keep)
    ((first
      | (refine step_app rfl _ _ 39 rfl base _ v n xs (own_drew (hown1.alloc _)) rfl _ 1 [B8 3] (src_byte 3 3 rfl (Blk.new _ _ _)) rfl (by omega) (by simp; omega) ?_; intro v2 w2 hown2 hg2; have hc2 := hg2.1.cell (a := ⟨w'.heap.size, 3, none⟩) (v := .slice A m c) ((World.cell?_alloc_lt _ _ _ hlt).trans hc3) hvk; have hb2 := hg2.1.size; have hv2k := hg2.ne (g := w'.heap.size) (by simp; omega) hvk)
      | (go_at_call 123; refine (numeral_any base v2 (n + 1) (xs ++ [B8 3]) m _ hown2 (by simp at hb2; omega) (by omega) (by omega)).mono ?_; rintro e w3 ⟨v3, rfl, hown3, hg3⟩; have hc4 := hg3.1.cell (a := ⟨w'.heap.size, 3, none⟩) hc2 hv2k)))
-- LOOP
  have hG3 : Grew w' w3 v v3 := hg1.trans (((Grew.of_below (((Below.refl _ w1).alloc (Nat.le_refl _) _).drew) v).trans hg2).trans hg3)
  have hvb : ∀ k, v.ownBlock = some k → base ≤ k := fun k hk => (hown.lt k hk).1
  have hbA : w'.heap.size < w3.heap.size := by have := hg3.1.size; simp at hb2; omega
  clear hown1 hg1 hb1 hlt hvk hwr hc3 hown2 hg2 hc2 hb2 hv2k hg3
  go_wp2_with fail
  go_loopw [0, 19] (fun b i wr => ∃ j : Nat, j ≤ m ∧ i = .int .i64 j ∧ wr.ownsRow base 5 1 b (n + 1 + (numB m).length + (es.take j).flatten.length) (xs ++ [B8 3] ++ bcells (numB m) ++ bcells (es.take j).flatten) ∧ Grew w' wr v b ∧ w'.heap.size < wr.heap.size) (fun _ i _ => m - (intOf i).toNat)
  case atStart => exact ⟨0, by omega, rfl, by simpa [bcells] using hown3, hG3, hbA⟩
  case round =>
    clear hown3 hG3 hc4
    obtain ⟨j, hj, rfl, hown3, hG, hbA⟩ := hrel
    have hBw' : Below base w' wr := hG.below hbase hvb
    have hBw : Below w.heap.size w wr := hB.trans (hBw'.mono hwb)
    by_cases hlt : j < m
    · obtain ⟨x, hx⟩ : ∃ x, l[j]? = some x := ⟨_, List.getElem?_eq_getElem (by rw [← HM.out]; exact hlt)⟩
      obtain ⟨e, he⟩ : ∃ e, es[j]? = some e := ⟨_, List.getElem?_eq_getElem (by rw [← HES.out]; exact hlt)⟩
      obtain ⟨b, off, rfl, hbl, hcells⟩ := hE (by have := HM.out; omega)
      obtain ⟨c0, c1, c2, c3⟩ := hcells j x hx
      have c0' := (hBw.cell (p := ⟨b, _, none⟩) hbl).trans c0
      have c1' := (hBw.cell (p := ⟨b, _, none⟩) hbl).trans c1
      have c2' := (hBw.cell (p := ⟨b, _, none⟩) hbl).trans c2
      have c3' := (hBw.cell (p := ⟨b, _, none⟩) hbl).trans c3
      have hmem := List.mem_of_getElem? hx
      have h1 := H1.out x hmem
      have HO := Lib.hid (one4 x.kind _ _ _ h1.1 h1.2.1 h1.2.2)
      have hflat : (es.take (j + 1)).flatten = (es.take j).flatten ++ e := by
        rw [List.take_add_one, he, List.flatten_append]; simp
      have hle : (es.take (j + 1)).flatten.length ≤ es.flatten.length := by
        conv => rhs; rw [← List.take_append_drop (j + 1) es, List.flatten_append, List.length_append]
        omega
      have hwrite := fun W hW hBW hWr hO => HW.out j x e hx he W base gb gt u0 (n + 1 + (numB m).length + (es.take j).flatten.length) (xs ++ [B8 3] ++ bcells (numB m) ++ bcells (es.take j).flatten) hBW hwb hW hWr hgb hgt hO
        (by rw [hflat, List.length_append] at hle; have := HLL.out; omega)
      have HWR := Lib.hid hwrite
      have HF := Lib.hid hflat
      have hkind := HK.out x hmem
      clear c0 c1 c2 c3 hcells h1 hx he hflat hle hwrite hmem
      obtain ⟨kx, nx, sx, lx⟩ := x
      rcases hkind with hkx | hkx | hkx
      · obtain rfl : kx = 1 := hkx
        have hc0 : wr.cell? ⟨b, off + j * 4, none⟩ = some (.int .i64 1) := c0'
        have hc1 : wr.cell? ⟨b, off + j * 4 + 1, none⟩ = some nx := c1'
        have hc2 : wr.cell? ⟨b, off + j * 4 + 2, none⟩ = some sx := c2'
        have hc3 : wr.cell? ⟨b, off + j * 4 + 3, none⟩ = some lx := c3'
        have HOk : Hid ((#[.int .i64 1, nx, sx, lx] : Array Value).all (·.oneCell') = true) := HO
        clear c0' c1' c2' c3' HO
        have hWr : Writer wr gb gt := hW.below hBw' hgb hgt
        have hgb' : gb < wr.heap.size := by omega
        have hgt' : gt < wr.heap.size := by omega
        have hW4 : Writer (wr.alloc (.cells #[.int .i64 1, nx, sx, lx] 93)) gb gt := hWr.below ((Below.refl wr.heap.size wr).alloc (Nat.le_refl _) _) hgb' hgt'
        have hX4 : Blk (wr.alloc (.cells #[.int .i64 1, nx, sx, lx] 93)) wr.heap.size 93 #[.int .i64 1, nx, sx, lx] := Blk.new _ _ _
        have hO4 := hown3.alloc (.cells #[.int .i64 1, nx, sx, lx] 93)
        have hB4 : Below wr.heap.size wr (wr.alloc (.cells #[.int .i64 1, nx, sx, lx] 93)) := (Below.refl _ wr).alloc (Nat.le_refl _) _
        clear hWr
        go_wp2_with (refine wpList_store_new rfl 93 _ _ rfl wr _ #[.int .i64 1, nx, sx, lx] 93 rfl rfl valueSize rfl HOk.out ?_)
        generalize wr.alloc (.cells #[.int .i64 1, nx, sx, lx] 93) = w4 at hW4 hX4 hO4 hB4 ⊢
        have d0 : w4.cell? ⟨wr.heap.size, 0, none⟩ = some (.int .i64 1) := hX4.cell 0
        have d1 : w4.cell? ⟨wr.heap.size, 1, none⟩ = some nx := hX4.cell 1
        have d2 : w4.cell? ⟨wr.heap.size, 2, none⟩ = some sx := hX4.cell 2
        have d3 : w4.cell? ⟨wr.heap.size, 3, none⟩ = some lx := hX4.cell 3
        have g0 := hW4.box
        have g1 := hW4.one
        clear hc0 hc1 hc2 hc3 HOk
        refine wp_region_still_tail 9 (by kernel_rfl) (by kernel_rfl) ?_
        simp only [List.take_succ_cons, List.take_zero, List.drop_succ_cons, List.drop_zero]
        show wpStill _ _ (World.drew _) _ _ _
        repeat still_step
        refine wpStill_nil ?_
        show wpList _ _ _ _ _ (World.drew _)
        clear d0 d1 d2 d3 g0 g1
        go_wp2_with fail
        have hcall := HWR.out w4.drew (Nat.le_trans (Nat.le_trans hbase (Nat.le_of_lt hbA)) hB4.size) ((hBw.trans (hB4.mono hBw.size)).drew) ⟨hW4.box, hW4.one, hW4.two, hW4.three⟩ (own_drew hO4)
        have hcall' : Calls Tryd.prog 122 #[u0, .agg #[.int .i64 1, nx, sx, lx]] w4.drew _ := hcall
        refine hcall'.mono ?_
        rintro e5 w5 ⟨v5, rfl, hown5, hg5⟩
        clear hcall hcall'
        go_wp2_with fail
        go_roundw
        case rel =>
          refine ⟨j + 1, by omega, by go_num, ?_, (hG.trans (Grew.of_below hB4.drew u0)).trans hg5, Nat.lt_of_lt_of_le hbA (Nat.le_trans hB4.size hg5.1.size)⟩
          rw [HF.out, List.length_append, bcells_append, ← Nat.add_assoc, ← List.append_assoc]
          exact hown5
        case measure => simp [intOf]; omega
      · obtain rfl : kx = 2 := hkx
        have hc0 : wr.cell? ⟨b, off + j * 4, none⟩ = some (.int .i64 2) := c0'
        have hc1 : wr.cell? ⟨b, off + j * 4 + 1, none⟩ = some nx := c1'
        have hc2 : wr.cell? ⟨b, off + j * 4 + 2, none⟩ = some sx := c2'
        have hc3 : wr.cell? ⟨b, off + j * 4 + 3, none⟩ = some lx := c3'
        have HOk : Hid ((#[.int .i64 2, nx, sx, lx] : Array Value).all (·.oneCell') = true) := HO
        clear c0' c1' c2' c3' HO
        have hWr : Writer wr gb gt := hW.below hBw' hgb hgt
        have hgb' : gb < wr.heap.size := by omega
        have hgt' : gt < wr.heap.size := by omega
        have hW4 : Writer (wr.alloc (.cells #[.int .i64 2, nx, sx, lx] 93)) gb gt := hWr.below ((Below.refl wr.heap.size wr).alloc (Nat.le_refl _) _) hgb' hgt'
        have hX4 : Blk (wr.alloc (.cells #[.int .i64 2, nx, sx, lx] 93)) wr.heap.size 93 #[.int .i64 2, nx, sx, lx] := Blk.new _ _ _
        have hO4 := hown3.alloc (.cells #[.int .i64 2, nx, sx, lx] 93)
        have hB4 : Below wr.heap.size wr (wr.alloc (.cells #[.int .i64 2, nx, sx, lx] 93)) := (Below.refl _ wr).alloc (Nat.le_refl _) _
        clear hWr
        go_wp2_with (refine wpList_store_new rfl 93 _ _ rfl wr _ #[.int .i64 2, nx, sx, lx] 93 rfl rfl valueSize rfl HOk.out ?_)
        generalize wr.alloc (.cells #[.int .i64 2, nx, sx, lx] 93) = w4 at hW4 hX4 hO4 hB4 ⊢
        have d0 : w4.cell? ⟨wr.heap.size, 0, none⟩ = some (.int .i64 2) := hX4.cell 0
        have d1 : w4.cell? ⟨wr.heap.size, 1, none⟩ = some nx := hX4.cell 1
        have d2 : w4.cell? ⟨wr.heap.size, 2, none⟩ = some sx := hX4.cell 2
        have d3 : w4.cell? ⟨wr.heap.size, 3, none⟩ = some lx := hX4.cell 3
        have g0 := hW4.box
        have g1 := hW4.two
        clear hc0 hc1 hc2 hc3 HOk
        refine wp_region_still_tail 9 (by kernel_rfl) (by kernel_rfl) ?_
        simp only [List.take_succ_cons, List.take_zero, List.drop_succ_cons, List.drop_zero]
        show wpStill _ _ (World.drew _) _ _ _
        repeat still_step
        refine wpStill_nil ?_
        show wpList _ _ _ _ _ (World.drew _)
        clear d0 d1 d2 d3 g0 g1
        go_wp2_with fail
        have hcall := HWR.out w4.drew (Nat.le_trans (Nat.le_trans hbase (Nat.le_of_lt hbA)) hB4.size) ((hBw.trans (hB4.mono hBw.size)).drew) ⟨hW4.box, hW4.one, hW4.two, hW4.three⟩ (own_drew hO4)
        have hcall' : Calls Tryd.prog 125 #[u0, .agg #[.int .i64 2, nx, sx, lx]] w4.drew _ := hcall
        refine hcall'.mono ?_
        rintro e5 w5 ⟨v5, rfl, hown5, hg5⟩
        clear hcall hcall'
        go_wp2_with fail
        go_roundw
        case rel =>
          refine ⟨j + 1, by omega, by go_num, ?_, (hG.trans (Grew.of_below hB4.drew u0)).trans hg5, Nat.lt_of_lt_of_le hbA (Nat.le_trans hB4.size hg5.1.size)⟩
          rw [HF.out, List.length_append, bcells_append, ← Nat.add_assoc, ← List.append_assoc]
          exact hown5
        case measure => simp [intOf]; omega
      · obtain rfl : kx = 3 := hkx
        have hc0 : wr.cell? ⟨b, off + j * 4, none⟩ = some (.int .i64 3) := c0'
        have hc1 : wr.cell? ⟨b, off + j * 4 + 1, none⟩ = some nx := c1'
        have hc2 : wr.cell? ⟨b, off + j * 4 + 2, none⟩ = some sx := c2'
        have hc3 : wr.cell? ⟨b, off + j * 4 + 3, none⟩ = some lx := c3'
        have HOk : Hid ((#[.int .i64 3, nx, sx, lx] : Array Value).all (·.oneCell') = true) := HO
        clear c0' c1' c2' c3' HO
        have hWr : Writer wr gb gt := hW.below hBw' hgb hgt
        have hgb' : gb < wr.heap.size := by omega
        have hgt' : gt < wr.heap.size := by omega
        have hW4 : Writer (wr.alloc (.cells #[.int .i64 3, nx, sx, lx] 93)) gb gt := hWr.below ((Below.refl wr.heap.size wr).alloc (Nat.le_refl _) _) hgb' hgt'
        have hX4 : Blk (wr.alloc (.cells #[.int .i64 3, nx, sx, lx] 93)) wr.heap.size 93 #[.int .i64 3, nx, sx, lx] := Blk.new _ _ _
        have hO4 := hown3.alloc (.cells #[.int .i64 3, nx, sx, lx] 93)
        have hB4 : Below wr.heap.size wr (wr.alloc (.cells #[.int .i64 3, nx, sx, lx] 93)) := (Below.refl _ wr).alloc (Nat.le_refl _) _
        clear hWr
        go_wp2_with (refine wpList_store_new rfl 93 _ _ rfl wr _ #[.int .i64 3, nx, sx, lx] 93 rfl rfl valueSize rfl HOk.out ?_)
        generalize wr.alloc (.cells #[.int .i64 3, nx, sx, lx] 93) = w4 at hW4 hX4 hO4 hB4 ⊢
        have d0 : w4.cell? ⟨wr.heap.size, 0, none⟩ = some (.int .i64 3) := hX4.cell 0
        have d1 : w4.cell? ⟨wr.heap.size, 1, none⟩ = some nx := hX4.cell 1
        have d2 : w4.cell? ⟨wr.heap.size, 2, none⟩ = some sx := hX4.cell 2
        have d3 : w4.cell? ⟨wr.heap.size, 3, none⟩ = some lx := hX4.cell 3
        have g0 := hW4.box
        have g1 := hW4.three
        clear hc0 hc1 hc2 hc3 HOk
        refine wp_region_still_tail 9 (by kernel_rfl) (by kernel_rfl) ?_
        simp only [List.take_succ_cons, List.take_zero, List.drop_succ_cons, List.drop_zero]
        show wpStill _ _ (World.drew _) _ _ _
        repeat still_step
        refine wpStill_nil ?_
        show wpList _ _ _ _ _ (World.drew _)
        clear d0 d1 d2 d3 g0 g1
        go_wp2_with fail
        have hcall := HWR.out w4.drew (Nat.le_trans (Nat.le_trans hbase (Nat.le_of_lt hbA)) hB4.size) ((hBw.trans (hB4.mono hBw.size)).drew) ⟨hW4.box, hW4.one, hW4.two, hW4.three⟩ (own_drew hO4)
        have hcall' : Calls Tryd.prog 126 #[u0, .agg #[.int .i64 3, nx, sx, lx], .pointer (some ⟨gb, 0, none⟩)] w4.drew _ := hcall
        refine hcall'.mono ?_
        rintro e5 w5 ⟨v5, rfl, hown5, hg5⟩
        clear hcall hcall'
        go_wp2_with fail
        go_roundw
        case rel =>
          refine ⟨j + 1, by omega, by go_num, ?_, (hG.trans (Grew.of_below hB4.drew u0)).trans hg5, Nat.lt_of_lt_of_le hbA (Nat.le_trans hB4.size hg5.1.size)⟩
          rw [HF.out, List.length_append, bcells_append, ← Nat.add_assoc, ← List.append_assoc]
          exact hown5
        case measure => simp [intOf]; omega
    · obtain rfl : j = m := by omega
      go_wp2_with fail
      go_ret
      refine ⟨_, rfl, ?_, hG⟩
      have e2 : bcells (listB es) = [B8 3] ++ bcells (numB j) ++ bcells es.flatten := by
        rw [listB, bcells_cons, bcells_append, ← HES.out]
        rfl
      have e3 : es.take j = es := List.take_of_length_le (by rw [← HES.out]; exact Nat.le_refl _)
      rw [e3] at hown3
      rw [HLL.out, e2, ← Nat.add_assoc, ← Nat.add_assoc]
      simpa using hown3
end Go.Proofs.YtibnikokgbfcdaaDoor

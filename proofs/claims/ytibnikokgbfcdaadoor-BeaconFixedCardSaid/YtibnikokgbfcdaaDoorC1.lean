/- Links in memory; laws at single operations on them; chain's small makers; chain.Head. -/
import Derived.Test.YtibnikokgbfcdaaDoorR678
import Derived.Deep.MidRow
import Derived.Deep.RegionHeld
namespace Go.Proofs.YtibnikokgbfcdaaDoor
open Go Go.RowKit

structure Lk where
  node : Int
  no : Int
  prev : List UInt8
  data : List UInt8
def Lk.cells (x : Lk) (D : Value) : List Value := .int .i64 x.node :: .int .i64 x.no :: ((dig x.prev).toList ++ [D])
theorem Lk.cells_len (x : Lk) (D : Value) (h : x.prev.length = 32) : (x.cells D).length = 35 := by
  simp [Lk.cells, dig_size, h]
theorem linkInfo : (Tryd.prog.info? 52).map (·.size) = some 35 := by kernel_rfl
theorem Lk.at_prev (x : Lk) (D : Value) (h : x.prev.length = 32) (j : Nat) (hj : j < 32) : (x.cells D)[2 + j]? = (dig x.prev)[j]? := by
  rw [show 2 + j = j + 1 + 1 by omega]
  show (((dig x.prev).toList ++ [D]))[j]? = _
  rw [List.getElem?_append_left (by simp [dig_size, h, hj])]
  simp
theorem Lk.at_data (x : Lk) (D : Value) (h : x.prev.length = 32) : (x.cells D)[34]? = some D := by
  show (((dig x.prev).toList ++ [D]))[32]? = _
  rw [List.getElem?_append_right (by simp [dig_size, h])]
  simp [dig_size, h]
theorem Lk.one (x : Lk) (A : Option Addr) (n c : Nat) : ∀ v ∈ x.cells (.slice A n c), v.oneCell' = true := by
  intro v hv
  simp only [Lk.cells, List.mem_cons, List.mem_append, List.mem_nil_iff, or_false] at hv
  rcases hv with rfl | rfl | hv | rfl
  · rfl
  · rfl
  · have := (Array.all_eq_true_iff_forall_mem.1 (dig_one x.prev)) v (by simpa using hv)
    exact this
  · rfl
/-- A link lies from offset o of block b on; what it leads to lies below block B. -/
def LkAt (w : World) (B b o : Nat) (x : Lk) : Prop := x.prev.length = 32 ∧ ∃ D c, w.rangeAt b o (x.cells (.slice D x.data.length c)) ∧ x.data.length ≤ c ∧ c ≤ 9223372036854775807 ∧ RdB w B D x.data
theorem rangeAt_below {w w' : World} {B b o : Nat} {cs : List Value} (h : w.rangeAt b o cs) (hb : Below B w w') (hlt : b < B) : w'.rangeAt b o cs := fun j v hv => (hb.cell (p := ⟨b, o + j, none⟩) hlt).trans (h j v hv)
theorem LkAt.below {w w' : World} {B b o : Nat} {x : Lk} (h : LkAt w B b o x) (hb : Below B w w') (hlt : b < B) : LkAt w' B b o x := by
  obtain ⟨h1, D, c, h2, h3, h4, h5⟩ := h
  exact ⟨h1, D, c, rangeAt_below h2 hb hlt, h3, h4, h5.below hb⟩
theorem LkAt.more {w : World} {B B' b o : Nat} {x : Lk} (h : LkAt w B b o x) (hB : B ≤ B') : LkAt w B' b o x := by
  obtain ⟨h1, D, c, h2, h3, h4, h5⟩ := h
  exact ⟨h1, D, c, h2, h3, h4, h5.more hB⟩
/-- Links from address A on. -/
def LRd (w : World) (B : Nat) (A : Option Addr) (l : List Lk) : Prop := 0 < l.length → ∃ b off, A = some ⟨b, off, none⟩ ∧ b < B ∧ ∀ (k : Nat) x, l[k]? = some x → LkAt w B b (off + k * 35) x
theorem LRd.nil {w : World} {B : Nat} {A : Option Addr} : LRd w B A [] := fun h => absurd h (by simp)
theorem LRd.below {w w' : World} {B : Nat} {A : Option Addr} {l : List Lk} (h : LRd w B A l) (hb : Below B w w') : LRd w' B A l := fun hn => by
  obtain ⟨b, off, e, hB, hc⟩ := h hn
  exact ⟨b, off, e, hB, fun k x hx => (hc k x hx).below hb hB⟩
theorem LRd.more {w : World} {B B' : Nat} {A : Option Addr} {l : List Lk} (h : LRd w B A l) (hB : B ≤ B') : LRd w B' A l := fun hn => by
  obtain ⟨b, off, e, hb, hc⟩ := h hn
  exact ⟨b, off, e, by omega, fun k x hx => (hc k x hx).more hB⟩
theorem LRd.later {w w' : World} {A : Option Addr} {l : List Lk} (h : LRd w w.heap.size A l) (hb : Below w.heap.size w w') : LRd w' w'.heap.size A l := (h.below hb).more hb.size
theorem LRd.take {w : World} {B : Nat} {A : Option Addr} {l : List Lk} (h : LRd w B A l) (k : Nat) : LRd w B A (l.take k) := fun hn => by
  obtain ⟨b, off, e, hB, hc⟩ := h (by rw [List.length_take] at hn; omega)
  refine ⟨b, off, e, hB, fun i x hx => hc i x ?_⟩
  rw [List.getElem?_take] at hx
  split at hx
  · exact hx
  · cases hx
theorem LRd.at_ {w : World} {B : Nat} {A : Option Addr} {l : List Lk} (h : LRd w B A l) {k : Nat} {x : Lk} (hx : l[k]? = some x) : ∃ b off, A = some ⟨b, off, none⟩ ∧ b < B ∧ LkAt w B b (off + k * 35) x := by
  obtain ⟨b, off, e, hB, hc⟩ := h (by have := (List.getElem?_eq_some_iff.1 hx).1; omega)
  exact ⟨b, off, e, hB, hc k x hx⟩
section
variable {ops : Array Oper} {rest : List Oper} {o : Oper} {a : Act} {Q : Exit → Act → World → Prop}
theorem load_link (hgd : o.guard = none) (p : Operand) (ho : o.op = .load 52 p) {w : World} {b off : Nat} (x : Lk) (D : Value) (hl : x.prev.length = 32) (hx : a.eval p = .pointer (some ⟨b, off, none⟩)) (hc : w.rangeAt b off (x.cells D))
    (h : wpList Tryd.prog ops Q rest (a.put o.dst (.agg (x.cells D).toArray)) w) : wpList Tryd.prog ops Q (o :: rest) a w :=
  wpList_load_mid hgd _ p ho b off hx (x.cells D) _ hc Tryd.underlying52 rfl (by rw [x.cells_len D hl]; exact linkInfo) h
theorem store_link_new (hgd : o.guard = none) (p y : Operand) (ho : o.op = .store 52 p y) (w : World) (c : Array Value) (t : TypeId) (x : Lk) (A : Option Addr) (n k : Nat) (hl : x.prev.length = 32)
    (hx : a.eval p = .pointer (some ⟨w.heap.size, 0, none⟩)) (hy : a.eval y = .agg (x.cells (.slice A n k)).toArray) (hold : c.size = 35)
    (h : wpList Tryd.prog ops Q rest (a.put o.dst undef) (w.alloc (.cells (x.cells (.slice A n k)).toArray t))) : wpList Tryd.prog ops Q (o :: rest) a (w.alloc (.cells c t)) :=
  wpList_store_new hgd _ p y ho w c _ t hx hy (by rw [List.size_toArray, x.cells_len _ hl]; exact linkInfo) (by rw [hold, List.size_toArray, x.cells_len _ hl]) (all_oneCell_toArray (x.one A n k)) h
theorem store_link (hgd : o.guard = none) (p y : Operand) (ho : o.op = .store 52 p y) {w : World} {g : Nat} {c : Array Value} {t : TypeId} (hg : Blk w g t c) (x : Lk) (A : Option Addr) (n k : Nat) (hl : x.prev.length = 32)
    (hx : a.eval p = .pointer (some ⟨g, 0, none⟩)) (hy : a.eval y = .agg (x.cells (.slice A n k)).toArray) (hold : c.size = 35)
    (h : ∀ w', Blk w' g t (x.cells (.slice A n k)).toArray → Only w w' g → w'.heap.size = w.heap.size → wpList Tryd.prog ops Q rest (a.put o.dst undef) w') : wpList Tryd.prog ops Q (o :: rest) a w :=
  wpList_store_row hgd _ p y ho g _ hx hy t c hg (by rw [List.size_toArray, x.cells_len _ hl]; exact linkInfo) (by rw [hold, List.size_toArray, x.cells_len _ hl]) (all_oneCell_toArray (x.one A n k))
    (h _ (setRow_heap w g c _ t _ hg) ⟨rfl, rfl, rfl, by simp, fun i _ hne => setRow_other w g i _ (fun e => hne (by rw [e]))⟩ (by simp))
end
theorem elems_of_blk {w : World} {g : Nat} (l : List V4) (h : Blk w g 93 (vcells l).toArray) : Elems w w.heap.size (some ⟨g, 0, none⟩) l := fun _ => by
  refine ⟨g, 0, rfl, h.lt, fun i x hx => ?_⟩
  have key : ∀ j, j < 4 → w.cell? ⟨g, 0 + i * 4 + j, none⟩ = x.cells[j]? := fun j hj => by
    rw [h.cell, Nat.zero_add, List.getElem?_toArray, vcells_get l i x hx j hj]
  exact ⟨key 0 (by decide), key 1 (by decide), key 2 (by decide), key 3 (by decide)⟩

set_option maxRecDepth 100000 in
set_option maxHeartbeats 1000000 in
theorem cnumber_any (k : Int) (w : World) : Calls Tryd.prog 84 #[.int .i64 k] w (Ret (.agg #[.int .i64 1, .int .i64 k, .string ⟨#[]⟩, .slice none 0 0]) w) := by
  go_enter Tryd.func84, Tryd.ntmps84
  go_wp2
  refine bodyPost_ret (results_cell_row rfl _ _ w.heap.size 93 _ (0, 0) _ rfl (Blk.new w 93 #[.int .i64 1, .int .i64 k, .string ⟨#[]⟩, .slice none 0 0]) Tryd.underlying93 rfl valueSize) rfl ?_
  exact ⟨rfl, (Below.refl _ w).alloc (Nat.le_refl _) _⟩
set_option maxRecDepth 100000 in
set_option maxHeartbeats 1000000 in
theorem clist_any (A : Option Addr) (n c : Nat) (w : World) : Calls Tryd.prog 83 #[.slice A n c] w (Ret (.agg #[.int .i64 3, .int .i64 0, .string ⟨#[]⟩, .slice A n c]) w) := by
  go_enter Tryd.func83, Tryd.ntmps83
  go_wp2
  refine bodyPost_ret (results_cell_row rfl _ _ w.heap.size 93 _ (0, 0) _ rfl (Blk.new w 93 #[.int .i64 3, .int .i64 0, .string ⟨#[]⟩, .slice A n c]) Tryd.underlying93 rfl valueSize) rfl ?_
  exact ⟨rfl, (Below.refl _ w).alloc (Nat.le_refl _) _⟩
set_option maxRecDepth 100000 in
set_option maxHeartbeats 1000000 in
theorem ctext_any (A : Option Addr) (l : List UInt8) (n c : Nat) (hn : n = l.length) (w : World) (hR : RdB w w.heap.size A l) : Calls Tryd.prog 85 #[.slice A n c] w (Ret (.agg #[.int .i64 2, .int .i64 0, .string ⟨l.toArray⟩, .slice none 0 0]) w) := by
  have HN := Lib.hid hn
  have hR0 := hR.alloc (Nat.le_refl _) (.cells #[.int .i64 0, .int .i64 0, .string ⟨#[]⟩, .slice none 0 0] 93)
  clear hn
  go_enter Tryd.func85, Tryd.ntmps85
  go_wp2_with (refine to_str2 rfl _ rfl rfl HN.out hR0 ?_)
  refine bodyPost_ret (results_cell_row rfl _ _ w.heap.size 93 _ (0, 0) _ rfl (Blk.new w 93 #[.int .i64 2, .int .i64 0, .string ⟨l.toArray⟩, .slice none 0 0]) Tryd.underlying93 rfl valueSize) rfl ?_
  exact ⟨rfl, (Below.refl _ w).alloc (Nat.le_refl _) _⟩

/-! Head -/
def noneTag : List UInt8 := [110, 111, 110, 101]
def linkTag : List UInt8 := [108, 105, 110, 107]
/-- What is hashed for a link. -/
def linkText (x : Lk) : List UInt8 := listB [intB x.node.toNat, intB x.no.toNat, textB x.prev, textB x.data]
def headOf (l : List Lk) : List UInt8 := match l.getLast? with | none => tagged noneTag [] | some x => tagged linkTag (linkText x)
theorem headOf_length (l : List Lk) : (headOf l).length = 32 := by
  unfold headOf
  split <;> exact tagged_length _ _
/-- A link whose numbers are small. -/
def Lk.fine (x : Lk) : Prop := 0 ≤ x.node ∧ x.node ≤ 1000000 ∧ 0 ≤ x.no ∧ x.no ≤ 1000000 ∧ x.data.length ≤ 65536
theorem linkText_len (x : Lk) (h : x.fine) (hp : x.prev.length = 32) : (linkText x).length ≤ 66000 := by
  obtain ⟨h1, h2, h3, h4, h5⟩ := h
  have a1 := numB_len10 32 (by omega)
  have a2 := numB_len10 (2 * x.node.toNat) (by omega)
  have a3 := numB_len10 (2 * x.no.toNat) (by omega)
  have a4 := numB_len10 x.data.length (by omega)
  have a5 := numB_len10 (0 + 1 + 1 + 1 + 1) (by omega)
  simp only [linkText, listB, textB, intB, List.length_cons, List.length_append, List.flatten_cons, List.flatten_nil, List.length_nil, hp]
  omega
set_option maxRecDepth 100000 in
set_option linter.unusedSimpArgs false in
set_option maxHeartbeats 4000000 in
theorem head_any (A : Option Addr) (l : List Lk) (n c : Nat) (hn : n = l.length) (hn2 : n ≤ 1000000) (hf : ∀ x, l.getLast? = some x → x.fine) (w : World) (hL : Laid w) (hR : LRd w w.heap.size A l) :
    Calls Tryd.prog 44 #[.slice A n c] w (Ret (.agg (dig (headOf l))) w) := by
  rcases Nat.eq_zero_or_pos n with h0 | h0
  · subst h0
    obtain rfl : l = [] := List.eq_nil_of_length_eq_zero hn.symm
    have HT := Lib.hid (fun W hW => tagged_any ⟨#[110, 111, 110, 101]⟩ none [] 0 W hW (Rd.zero) (by decide) (by decide))
    have HL := Lib.hid hL
    clear hn hf hR hL
    go_enter Tryd.func44, Tryd.ntmps44
    go_wp2_with fail
    refine (HT.out _ (HL.out.below ((Below.refl _ w).alloc (Nat.le_refl _) _))).mono ?_
    rintro e w1 ⟨rfl, hb1⟩
    have hB1 : Below w.heap.size w w1 := ((Below.refl _ w).alloc (Nat.le_refl _) _).trans (hb1.mono (by simp))
    have hD1 := (Blk.new w 23 _).below hb1 (by simp)
    clear hb1
    go_wp2_with (refine store_dig rfl _ _ rfl hD1 _ (tagged_length _ _) rfl rfl rfl ?_; intro w8 hD8 hO8 hz8)
    refine bodyPost_ret (results_cell_row rfl _ _ w.heap.size 23 _ (0, 0) _ rfl hD8 Tryd.underlying23 rfl (dig_info _ (tagged_length _ _))) rfl ?_
    exact ⟨rfl, hB1.trans (hO8.toBelow hB1.size (Nat.le_refl _))⟩
  · obtain ⟨x, hx⟩ : ∃ x, l[n - 1]? = some x := ⟨_, List.getElem?_eq_getElem (by omega)⟩
    have hlast : l.getLast? = some x := by rw [List.getLast?_eq_getElem?, ← hn]; exact hx
    have hfx := hf x hlast
    obtain ⟨b, off, rfl, hbl, hpv, D, dc, hrg, hdc, hdc2, hrd⟩ := hR.at_ hx
    have hho : headOf l = tagged linkTag (linkText x) := by rw [headOf, hlast]
    rw [hho]
    have HLEN := Lib.hid (linkText_len x hfx hpv)
    have HL := Lib.hid hL
    have HRG := Lib.hid hrg
    have HRD := Lib.hid hrd
    obtain ⟨f1, f2, f3, f4, f5⟩ := hfx
    have hidx : ((n : Int) - 1) = ((n - 1 : Nat) : Int) := by omega
    clear hf hR hL hlast hho hx hrg hrd hn
    obtain ⟨nd, no, pv, dat⟩ := x
    simp only at hpv f1 f2 f3 f4 f5 hdc
    obtain ⟨ndn, hndn⟩ : ∃ ndn : Nat, nd = ndn := ⟨nd.toNat, by omega⟩
    obtain ⟨non, hnon⟩ : ∃ non : Nat, no = non := ⟨no.toNat, by omega⟩
    obtain ⟨TX, hTX⟩ : ∃ TX, TX = linkText ⟨nd, no, pv, dat⟩ := ⟨_, rfl⟩
    have hTL : TX.length ≤ 66000 := by rw [hTX]; exact HLEN.out
    have HTX := Lib.hid (show TX = listB [intB ndn, intB non, textB pv, textB dat] by rw [hTX, hndn, hnon]; rfl)
    rw [← hTX]
    obtain ⟨dl, hdl⟩ : ∃ dl, dl = dat.length := ⟨_, rfl⟩
    have HDL := Lib.hid hdl
    have HND := Lib.hid hndn
    have HNO := Lib.hid hnon
    have hnb : ndn ≤ 1000000 := by omega
    have hob : non ≤ 1000000 := by omega
    clear hTX hndn hnon HLEN hdl
    go_enter Tryd.func44, Tryd.ntmps44
    go_wp2_with (first
      | (rw [hidx]; refine load_link rfl _ rfl ⟨nd, no, pv, dat⟩ (.slice D dat.length dc) hpv rfl (rangeAt_below HRG.out ((Below.refl _ w).alloc (Nat.le_refl _) _) hbl) ?_)
      | (refine load_link rfl _ rfl ⟨nd, no, pv, dat⟩ (.slice D dat.length dc) hpv rfl (rangeAt_below HRG.out ((Below.refl _ w).alloc (Nat.le_refl _) _) hbl) ?_)
      | (refine store_link rfl _ _ rfl (Blk.new' (w.alloc _) 52 _ (by simp)) ⟨nd, no, pv, dat⟩ D dat.length dc hpv rfl rfl rfl ?_; intro W1 hX hO1 hz1
         have hZ1 : ∃ z, z.size = 32 ∧ Blk W1 w.heap.size 23 z := ⟨_, rfl, ((Blk.new w 23 _).alloc _).grown hO1 (by simp)⟩
         have hB1 : Below w.heap.size w W1 := (((Below.refl _ w).alloc (Nat.le_refl _) _).alloc (by simp) _).trans (hO1.toBelow (by simp; omega) (Nat.le_succ _))))
    obtain ⟨z, hzs, hZ1⟩ := hZ1
    have hszW : w.heap.size + 1 < W1.heap.size := hX.lt
    have hL1 := HL.out.below hB1
    have hRd1 : RdB W1 W1.heap.size D dat := (HRD.out.below hB1).more hB1.size
    obtain ⟨g, hg⟩ : ∃ g, g = w.heap.size + 1 := ⟨_, rfl⟩
    rw [← hg] at hX
    have k0 : W1.cell? ⟨g, 0, none⟩ = some (.int .i64 nd) := hX.cell 0
    have k1 : W1.cell? ⟨g, 1, none⟩ = some (.int .i64 no) := hX.cell 1
    have k34 : W1.cell? ⟨g, 34, none⟩ = some (.slice D dl dc) := by
      rw [hX.cell 34, List.getElem?_toArray, HDL.out]
      exact Lk.at_data ⟨nd, no, pv, dat⟩ _ hpv
    have hRp : RdB W1 W1.heap.size (some ⟨g, 2, none⟩) pv := Rd.of_blk hX hX.lt fun k hk => by
      rw [List.getElem?_toArray, Lk.at_prev ⟨nd, no, pv, dat⟩ _ hpv k (by omega)]
      exact dig_get pv k hk
    rw [← HDL.out, ← hg]
    have hgl := hX.lt
    clear hg hO1 hz1
    go_wp2_with fail
    refine wp_region_held_drew (S := fun W' => Below W1.heap.size W1 W') (by kernel_rfl) (Below.refl _ _).drew (fun hS => ?_)
    refine wpAnyH_take (i := 0) (v := .pointer (some ⟨g, 0, none⟩)) rfl (by kernel_rfl) (by kernel_rfl) (by kernel_rfl) (fun _ _ _ h => h) (Or.inl ⟨by rfl, fun W' hS' => by go_simp⟩) hS ?_
    simp only [Act.put, List.setIfInBounds_toArray, List.set_cons_zero, List.set_cons_succ]
    refine wpAnyH_take (i := 1) (v := .int .i64 nd) rfl (by kernel_rfl) (by kernel_rfl) (by kernel_rfl) (fun _ _ _ h => h) (Or.inl ⟨by rfl, fun W' hS' => by have := (hS'.cell (p := ⟨g, 0, none⟩) hgl).trans k0; go_simp⟩) hS ?_
    simp only [Act.put, List.setIfInBounds_toArray, List.set_cons_zero, List.set_cons_succ]
    refine wpAnyH_take (i := 3) (v := .pointer (some ⟨g, 1, none⟩)) rfl (by kernel_rfl) (by kernel_rfl) (by kernel_rfl) (fun _ _ _ h => h) (Or.inl ⟨by rfl, fun W' hS' => by go_simp⟩) hS ?_
    simp only [Act.put, List.setIfInBounds_toArray, List.set_cons_zero, List.set_cons_succ]
    refine wpAnyH_take (i := 4) (v := .int .i64 no) rfl (by kernel_rfl) (by kernel_rfl) (by kernel_rfl) (fun _ _ _ h => h) (Or.inl ⟨by rfl, fun W' hS' => by have := (hS'.cell (p := ⟨g, 1, none⟩) hgl).trans k1; go_simp⟩) hS ?_
    simp only [Act.put, List.setIfInBounds_toArray, List.set_cons_zero, List.set_cons_succ]
    refine wpAnyH_take (i := 6) (v := .pointer (some ⟨g, 2, none⟩)) rfl (by kernel_rfl) (by kernel_rfl) (by kernel_rfl) (fun _ _ _ h => h) (Or.inl ⟨by rfl, fun W' hS' => by go_simp⟩) hS ?_
    simp only [Act.put, List.setIfInBounds_toArray, List.set_cons_zero, List.set_cons_succ]
    refine wpAnyH_take (i := 7) (v := .slice (some ⟨g, 2, none⟩) 32 32) rfl (by kernel_rfl) (by kernel_rfl) (by kernel_rfl) (fun _ _ _ h => h) (Or.inl ⟨by rfl, fun W' hS' => by go_simp⟩) hS ?_
    simp only [Act.put, List.setIfInBounds_toArray, List.set_cons_zero, List.set_cons_succ]
    refine wpAnyH_take (i := 9) (v := .pointer (some ⟨g, 34, none⟩)) rfl (by kernel_rfl) (by kernel_rfl) (by kernel_rfl) (fun _ _ _ h => h) (Or.inl ⟨by rfl, fun W' hS' => by go_simp⟩) hS ?_
    simp only [Act.put, List.setIfInBounds_toArray, List.set_cons_zero, List.set_cons_succ]
    refine wpAnyH_take (i := 10) (v := .slice D dl dc) rfl (by kernel_rfl) (by kernel_rfl) (by kernel_rfl) (fun _ _ _ h => h) (Or.inl ⟨by rfl, fun W' hS' => by have := (hS'.cell (p := ⟨g, 34, none⟩) hgl).trans k34; go_simp⟩) hS ?_
    simp only [Act.put, List.setIfInBounds_toArray, List.set_cons_zero, List.set_cons_succ]
    refine wpAnyH_ready (rs := [2]) (by kernel_rfl) (by simp) ?_
    refine AllReadyH.cons rfl (fun Kq hKq => ?_) AllReadyH.nil
    go_simp
    refine (cnumber_any nd _).mono ?_
    rintro e Wa ⟨rfl, hba⟩
    have hSa := hS.trans (hba.mono hS.size)
    refine hKq.out _ _ hSa (fun _ => ?_)
    clear hKq Kq hba hS
    refine wpAnyH_ready (rs := [5]) (by kernel_rfl) (by simp) ?_
    refine AllReadyH.cons rfl (fun Kq hKq => ?_) AllReadyH.nil
    go_simp
    refine (cnumber_any no _).mono ?_
    rintro e Wb ⟨rfl, hbb⟩
    have hSb := hSa.trans (hbb.mono hSa.size)
    refine hKq.out _ _ hSb (fun _ => ?_)
    clear hKq Kq hbb hSa
    refine wpAnyH_ready (rs := [8]) (by kernel_rfl) (by simp) ?_
    refine AllReadyH.cons rfl (fun Kq hKq => ?_) AllReadyH.nil
    go_simp
    refine (ctext_any (some ⟨g, 2, none⟩) pv 32 32 hpv.symm _ ((hRp.below hSb).more hSb.size)).mono ?_
    rintro e Wc ⟨rfl, hbc⟩
    have hSc := hSb.trans (hbc.mono hSb.size)
    refine hKq.out _ _ hSc (fun _ => ?_)
    clear hKq Kq hbc hSb
    refine wpAnyH_ready (rs := [11]) (by kernel_rfl) (by simp) ?_
    refine AllReadyH.cons rfl (fun Kq hKq => ?_) AllReadyH.nil
    go_simp
    refine (ctext_any D dat dl dc HDL.out _ ((hRd1.below hSc).more hSc.size)).mono ?_
    rintro e Wd ⟨rfl, hbd⟩
    have hSd := hSc.trans (hbd.mono hSc.size)
    refine hKq.out _ _ hSd (fun _ => ?_)
    clear hKq Kq hbd hSc
    refine wpAnyH_ready (rs := [12]) (by kernel_rfl) (by simp) ?_
    refine AllReadyH.cons rfl (fun Kq hKq => ?_) AllReadyH.nil
    go_simp
    have hE0 : Elems (Wd.alloc (.cells #[.int .i64 1, .int .i64 nd, .string ⟨#[]⟩, .slice none 0 0, .int .i64 1, .int .i64 no, .string ⟨#[]⟩, .slice none 0 0, .int .i64 2, .int .i64 0, .string ⟨pv.toArray⟩, .slice none 0 0, .int .i64 2, .int .i64 0, .string ⟨dat.toArray⟩, .slice none 0 0] 93)) (Wd.alloc (.cells #[.int .i64 1, .int .i64 nd, .string ⟨#[]⟩, .slice none 0 0, .int .i64 1, .int .i64 no, .string ⟨#[]⟩, .slice none 0 0, .int .i64 2, .int .i64 0, .string ⟨pv.toArray⟩, .slice none 0 0, .int .i64 2, .int .i64 0, .string ⟨dat.toArray⟩, .slice none 0 0] 93)).heap.size (some ⟨Wd.heap.size, 0, none⟩) [⟨1, .int .i64 nd, .string ⟨#[]⟩, .slice none 0 0⟩, ⟨1, .int .i64 no, .string ⟨#[]⟩, .slice none 0 0⟩, V4.text ⟨pv.toArray⟩, V4.text ⟨dat.toArray⟩] := elems_of_blk _ (Blk.new Wd 93 _)
    have hSe := hSd.alloc hSd.size (.cells #[.int .i64 1, .int .i64 nd, .string ⟨#[]⟩, .slice none 0 0, .int .i64 1, .int .i64 no, .string ⟨#[]⟩, .slice none 0 0, .int .i64 2, .int .i64 0, .string ⟨pv.toArray⟩, .slice none 0 0, .int .i64 2, .int .i64 0, .string ⟨dat.toArray⟩, .slice none 0 0] 93)
    refine hKq.out _ _ hSe (fun _ => ?_)
    clear hKq Kq hSd
    obtain ⟨ge, hge⟩ : ∃ ge, ge = Wd.heap.size := ⟨_, rfl⟩
    rw [← hge] at hE0 ⊢
    generalize Wd.alloc (.cells #[.int .i64 1, .int .i64 nd, .string ⟨#[]⟩, .slice none 0 0, .int .i64 1, .int .i64 no, .string ⟨#[]⟩, .slice none 0 0, .int .i64 2, .int .i64 0, .string ⟨pv.toArray⟩, .slice none 0 0, .int .i64 2, .int .i64 0, .string ⟨dat.toArray⟩, .slice none 0 0] 93) = We at hE0 hSe ⊢
    clear hge
    refine wpAnyH_ready (rs := [13]) (by kernel_rfl) (by simp) ?_
    refine AllReadyH.cons rfl (fun Kq hKq => ?_) AllReadyH.nil
    go_simp
    refine (clist_any (some ⟨ge, 0, none⟩) 4 4 _).mono ?_
    rintro e Wf ⟨rfl, hbf⟩
    have hEf := hE0.later hbf
    have hSf := hSe.trans (hbf.mono hSe.size)
    refine hKq.out _ _ hSf (fun _ => ?_)
    clear hKq Kq hbf hSe hE0
    refine wpAnyH_ready (rs := [14]) (by kernel_rfl) (by simp) ?_
    refine AllReadyH.cons rfl (fun Kq hKq => ?_) AllReadyH.nil
    go_simp
    have hx : Enc Wf (V4.list (some ⟨ge, 0, none⟩) 4 4) (0 + 1) TX := by
      rw [HTX.out]
      refine enc_list Wf (some ⟨ge, 0, none⟩) _ [intB ndn, intB non, textB pv, textB dat] 4 0 rfl hEf (by simp) (by omega) (by simp) (by omega) fun k x e h1 h2 => ?_
      rcases k with _ | _ | _ | _ | k
      · obtain rfl := Option.some.inj h1
        obtain rfl := Option.some.inj h2
        rw [HND.out]
        exact enc_int Wf ndn (by omega)
      · obtain rfl := Option.some.inj h1
        obtain rfl := Option.some.inj h2
        rw [HNO.out]
        exact enc_int Wf non (by omega)
      · obtain rfl := Option.some.inj h1
        obtain rfl := Option.some.inj h2
        exact enc_text Wf ⟨pv.toArray⟩
      · obtain rfl := Option.some.inj h1
        obtain rfl := Option.some.inj h2
        exact enc_text Wf ⟨dat.toArray⟩
      · cases h1
    have hcall : Calls Tryd.prog 69 #[.agg #[.int .i64 3, .int .i64 0, .string ⟨#[]⟩, .slice (some ⟨ge, 0, none⟩) 4 4]] Wf (EncPost TX Wf) := encode_ok (V4.list (some ⟨ge, 0, none⟩) 4 4) (0 + 1) TX Wf hx (by omega) (by omega)
    refine hcall.mono ?_
    rintro e Wg ⟨v6, rfl, hown6, hb6⟩
    have hSg := hSf.trans (hb6.mono hSf.size)
    obtain ⟨-, A6, c6, rfl, -, -, hr6⟩ := own_slice hown6
    refine hKq.out _ _ hSg (fun _ => ?_)
    clear hKq Kq hb6 hSf hx hcall hEf hown6
    refine wpAnyH_take (i := 15) (v := .tuple #[.slice A6 TX.length c6, .int .i64 0]) rfl (by kernel_rfl) (by kernel_rfl) (by kernel_rfl) (fun _ _ _ h => h) (Or.inl ⟨by rfl, fun W' hS' => by go_simp⟩) hSg ?_
    simp only [Act.put, List.setIfInBounds_toArray, List.set_cons_zero, List.set_cons_succ]
    refine wpAnyH_take (i := 16) (v := .slice A6 TX.length c6) rfl (by kernel_rfl) (by kernel_rfl) (by kernel_rfl) (fun _ _ _ h => h) (Or.inl ⟨by rfl, fun W' hS' => by go_simp⟩) hSg ?_
    simp only [Act.put, List.setIfInBounds_toArray, List.set_cons_zero, List.set_cons_succ]
    refine wpAnyH_take (i := 17) (v := .int .i64 0) rfl (by kernel_rfl) (by kernel_rfl) (by kernel_rfl) (fun _ _ _ h => h) (Or.inl ⟨by rfl, fun W' hS' => by go_simp⟩) hSg ?_
    simp only [Act.put, List.setIfInBounds_toArray, List.set_cons_zero, List.set_cons_succ]
    refine wpAnyH_take (i := 18) (v := .slice A6 TX.length c6) rfl (by kernel_rfl) (by kernel_rfl) (by kernel_rfl) (fun _ _ _ h => h) (Or.inl ⟨by rfl, fun W' hS' => by go_simp⟩) hSg ?_
    simp only [Act.put, List.setIfInBounds_toArray, List.set_cons_zero, List.set_cons_succ]
    refine wpAnyH_take (i := 19) (v := .int .i64 0) rfl (by kernel_rfl) (by kernel_rfl) (by kernel_rfl) (fun _ _ _ h => h) (Or.inl ⟨by rfl, fun W' hS' => by go_simp⟩) hSg ?_
    simp only [Act.put, List.setIfInBounds_toArray, List.set_cons_zero, List.set_cons_succ]
    refine wpAnyH_done (by kernel_rfl) ?_ _
    have hZg := hZ1.below hSg (by omega)
    have hBg : Below w.heap.size w Wg := hB1.trans (hSg.mono hB1.size)
    have hTG := tagged_any ⟨#[108, 105, 110, 107]⟩ A6 TX c6 Wg (HL.out.below hBg) hr6 (by omega) (by decide)
    rw [show tagged (⟨#[108, 105, 110, 107]⟩ : ByteArray).data.toList TX = tagged linkTag TX from rfl] at hTG
    have HTG := Lib.hid hTG
    clear hTG hr6 hSg hZ1 hB1 hX hRd1 hRp k0 k1 k34
    go_wp2_with fail
    refine HTG.out.mono ?_
    rintro e Wh ⟨rfl, hbh⟩
    have hBh := hBg.trans (hbh.mono hBg.size)
    have hZh := hZg.below hbh hZg.lt
    obtain ⟨H, hH⟩ : ∃ H, H = tagged linkTag TX := ⟨_, rfl⟩
    have hHl : H.length = 32 := by rw [hH]; exact tagged_length _ _
    rw [← hH]
    have HH := Lib.hid hH
    clear hH hbh hBg hZg
    go_wp2_with (refine store_dig rfl _ _ rfl hZh H hHl rfl rfl hzs ?_; intro w8 hD8 hO8 hz8)
    refine bodyPost_ret (results_cell_row rfl _ _ w.heap.size 23 _ (0, 0) _ rfl hD8 Tryd.underlying23 rfl (dig_info _ hHl)) rfl ?_
    rw [← HH.out]
    exact ⟨rfl, hBh.trans (hO8.toBelow hBh.size (Nat.le_refl _))⟩
end Go.Proofs.YtibnikokgbfcdaaDoor

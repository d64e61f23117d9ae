/- How links, lists of bytes and a link by value open. -/
import Derived.Test.YtibnikokgbfcdaaDoorOpens
import Derived.Test.YtibnikokgbfcdaaDoorC1
namespace Go.Proofs.YtibnikokgbfcdaaDoor
set_option maxRecDepth 100000
open Go Go.Deep Go.ChangeShapes Go.WideShapes Go.ChangeAt Go.RowKit

instance : Inhabited Lk := ⟨⟨0, 0, [], []⟩⟩
theorem bytesCells : Tryd.prog.cellsOf 39 = 1 := by kernel_rfl
theorem linkCells : Tryd.prog.cellsOf 52 = 35 := by kernel_rfl
theorem linkFields : (match Tryd.prog.underlying 52 with | some (.struct fs) => fs.toList.map (fun f => (f.type, f.offset)) | _ => []) = [(3, 0), (3, 1), (23, 2), (39, 34)] := by kernel_rfl
theorem digUnder : Tryd.prog.underlying 23 = some (.array 32 5) := by kernel_rfl
theorem split35 {cs : List Value} (h : cs.length = 35) : ∃ a b m d, cs = a :: b :: (m ++ [d]) ∧ m.length = 32 := by
  match cs, h with
  | [], h => simp at h
  | [a], h => simp at h
  | a :: b :: r, h =>
    have hr : r.length = 33 := by simpa using h
    have hne : r ≠ [] := by intro e; subst e; simp at hr
    exact ⟨a, b, r.dropLast, r.getLast hne, by rw [List.dropLast_concat_getLast], by simp [hr]⟩
theorem spot_none {W : World} {a : Addr} {v : Value} (h : W.cell? a = some v) : a.spot = none := by
  obtain ⟨b, o, s⟩ := a
  cases s with
  | none => rfl
  | some s =>
    unfold World.cell? at h
    split at h
    · simp at h
    · cases h
theorem add_zero_spot {a : Addr} (h : (a.add 0).spot = none) : a.spot = none := h
theorem add_zero_mul_spot {a : Addr} {n : Nat} (h : ((a.add (0 * n)).add 0).spot = none) : a.spot = none := by
  rw [Nat.zero_mul] at h
  exact h
section
variable {H : Type} {enc : TypeId × Value → H}
theorem dig_trod {W : World} {held : Bool} {fuel : Nat} {cs : List Value} {x : DataW H × List MemPlace} (h : DataW.trod enc Tryd.prog W 0 (fun _ => true) held fuel 23 cs = some x) : ∃ d : List UInt8, d.length = 32 ∧ cs = (dig d).toList := by
  obtain ⟨xs, m, rfl, rfl, hl, hxl, hel⟩ := DataW.trod_array digUnder h
  rw [digestCells] at hl
  rw [u8Cells] at hel
  obtain ⟨d, hd, e⟩ := dig_of (cs := cs.toArray) (by simpa using hl) fun i hi => by
    have h1 := hel i hi
    rw [Nat.mul_one, List.drop_eq_getElem_cons (by omega)] at h1
    have h2 : List.take 1 (cs[i] :: List.drop (i + 1) cs) = [cs[i]] := rfl
    rw [h2, List.getElem?_eq_getElem (show i < xs.length by omega)] at h1
    obtain ⟨n, hn, _, hw⟩ := DataW.trod_int Tryd.underlying5 h1
    simp only [List.cons.injEq, and_true] at hn
    have : IntKind.u8.has n := by simpa [Lit.wf, IntKind.has] using hw
    obtain ⟨c, rfl⟩ := u8_byte this
    exact ⟨c, by rw [List.getElem?_toArray, List.getElem?_eq_getElem (by omega), hn]⟩
  exact ⟨d, hd, by rw [← e]⟩
theorem bytes_trod {W : World} {held : Bool} {fuel : Nat} {v : Value} {x : DataW H × List MemPlace} (h : DataW.trod enc Tryd.prog W 0 (fun _ => true) held fuel 39 [v] = some x) :
    ∃ (A : Option Addr) (l : List UInt8) (c : Nat), v = .slice A l.length c ∧ l.length ≤ c ∧ c ≤ 9223372036854775807 ∧ RdB W W.heap.size A l ∧ (A = none → l.length = 0 ∧ c = 0) := by
  rcases open_slice1 Tryd.underlying39 u8Cells h with ⟨h0, _⟩ | ⟨a, len', cap', m, n, V, D, Pl, h0, _, hlc, hcm, hm, _, hel⟩
  · simp only [List.cons.injEq, and_true] at h0
    subst h0
    exact ⟨none, [], 0, rfl, by simp, by omega, RdB.nil, fun _ => ⟨rfl, rfl⟩⟩
  · simp only [List.cons.injEq, and_true] at h0
    subst h0
    simp only [if_true] at hm
    have key : ∀ i, i < len' → ∃ c : UInt8, V i = .int .u8 (c.toNat : Int) := fun i hi => by
      obtain ⟨x, hx, _, hw⟩ := DataW.trod_int Tryd.underlying5 (hel i (by omega)).2
      simp only [List.cons.injEq, and_true] at hx
      have : IntKind.u8.has x := by simpa [Lit.wf, IntKind.has] using hw
      obtain ⟨c, rfl⟩ := u8_byte this
      exact ⟨c, hx⟩
    obtain ⟨C, hC⟩ := choose_lt key
    have hlen : ((List.range len').map C).length = len' := by simp
    refine ⟨some a, (List.range len').map C, cap', by rw [hlen], by rw [hlen]; exact hlc, by simp only [maxLen] at hcm; omega, ?_, fun e => by cases e⟩
    intro hpos
    rw [hlen] at hpos ⊢
    obtain ⟨b, off, spot⟩ := a
    have h1 := (hel 0 (by omega)).1
    have hs := spot_none h1
    obtain rfl : spot = none := add_zero_spot hs
    simp only [Addr.add_mid] at h1
    refine ⟨b, off, rfl, World.block_lt_of_cell? W _ h1, fun k hk => ?_⟩
    have h1 := (hel k (by omega)).1
    simp only [Addr.add_mid] at h1
    rw [h1, hC k hk]
    simp [byteAt, List.getD_eq_getElem?_getD, List.getElem?_range hk]
/-- A link's cells. -/
def LkC (W : World) (x : Lk) (D : Option Addr) (c : Nat) : Prop := x.prev.length = 32 ∧ x.data.length ≤ c ∧ c ≤ 9223372036854775807 ∧ RdB W W.heap.size D x.data
theorem link_trod {W : World} {held : Bool} {fuel : Nat} {cs : List Value} {y : DataW H × List MemPlace} (h : DataW.trod enc Tryd.prog W 0 (fun _ => true) held fuel 52 cs = some y) :
    ∃ (x : Lk) (D : Option Addr) (c : Nat), cs = x.cells (.slice D x.data.length c) ∧ LkC W x D c := by
  have hf := linkFields
  have hu : ∃ fs, Tryd.prog.underlying 52 = some (.struct fs) := ⟨_, Tryd.underlying52⟩
  obtain ⟨fs, hu⟩ := hu
  rw [hu] at hf
  simp only at hf
  obtain ⟨xs, n, rfl, -, hl, hxl, hel⟩ := DataW.trod_struct hu h
  rw [linkCells] at hl
  obtain ⟨a, b, m, d, rfl, hml⟩ := split35 hl
  have hsz : fs.size = 4 := by
    have := congrArg List.length hf
    simpa using this
  have at_ : ∀ (i : Nat) t o, ([(3, 0), (3, 1), (23, 2), (39, 34)] : List (TypeId × Nat))[i]? = some (t, o) → ∃ z, DataW.trod enc Tryd.prog W 0 (fun _ => true) held n t (((a :: b :: (m ++ [d])).drop o).take (Tryd.prog.cellsOf t)) = some z := fun i t o hi => by
    rw [← hf, List.getElem?_map] at hi
    obtain ⟨f, hfi, he⟩ := Option.map_eq_some_iff.1 hi
    obtain ⟨rfl, rfl⟩ := Prod.mk.inj he
    have hi4 : i < 4 := by
      have := (List.getElem?_eq_some_iff.1 hfi).1
      simpa [hsz] using this
    have h1 := hel i f (by simpa using hfi)
    rw [List.getElem?_eq_getElem (show i < xs.length by omega)] at h1
    exact ⟨_, h1⟩
  obtain ⟨z0, h0⟩ := at_ 0 _ _ rfl
  obtain ⟨z1, h1⟩ := at_ 1 _ _ rfl
  obtain ⟨z2, h2⟩ := at_ 2 _ _ rfl
  obtain ⟨z3, h3⟩ := at_ 3 _ _ rfl
  rw [intCells] at h0 h1
  rw [digestCells] at h2
  rw [bytesCells] at h3
  have e2 : List.take 32 (List.drop 2 (a :: b :: (m ++ [d]))) = m := by
    show List.take 32 (m ++ [d]) = m
    rw [List.take_append_of_le_length (by omega), List.take_of_length_le (by omega)]
  have e3 : List.take 1 (List.drop 34 (a :: b :: (m ++ [d]))) = [d] := by
    show List.take 1 (List.drop 32 (m ++ [d])) = [d]
    rw [List.drop_append_of_le_length (by omega), List.drop_of_length_le (by omega)]
    rfl
  rw [e2] at h2
  rw [e3] at h3
  obtain ⟨nd, hnd, -, -⟩ := DataW.trod_int Tryd.underlying3 (show DataW.trod enc Tryd.prog W 0 (fun _ => true) held n 3 [a] = some z0 from h0)
  obtain ⟨no, hno, -, -⟩ := DataW.trod_int Tryd.underlying3 (show DataW.trod enc Tryd.prog W 0 (fun _ => true) held n 3 [b] = some z1 from h1)
  simp only [List.cons.injEq, and_true] at hnd hno
  obtain ⟨pv, hpv, rfl⟩ := dig_trod h2
  obtain ⟨D, dat, c, rfl, h5, h6, h7, -⟩ := bytes_trod h3
  subst hnd hno
  exact ⟨⟨nd, no, pv, dat⟩, D, c, rfl, hpv, h5, h6, h7⟩
theorem open_link {W : World} {v : Value} {d : DataW H} {ps : List MemPlace} {r : Reach} {b0 : Nat} (hval : Value.okWide Tryd.prog W r b0 52 v) (h : DataW.Trod enc Tryd.prog W 0 (fun _ => true) true 52 v d ps) :
    ∃ (x : Lk) (D : Option Addr) (c : Nat), v = .agg (x.cells (.slice D x.data.length c)).toArray ∧ LkC W x D c := by
  obtain ⟨cs, rfl, -⟩ := okWide_struct Tryd.underlying52 hval
  obtain ⟨fuel, hf⟩ := h
  obtain ⟨x, D, c, e, h1⟩ := link_trod hf
  have e' : cs.toList = x.cells (.slice D x.data.length c) := e
  exact ⟨x, D, c, by rw [← e'], h1⟩
theorem open_links {W : World} {v : Value} {d : DataW H} {ps : List MemPlace} {r : Reach} {b0 : Nat} (hval : Value.okWide Tryd.prog W r b0 43 v) (h : DataW.Trod enc Tryd.prog W 0 (fun _ => true) true 43 v d ps) :
    ∃ (A : Option Addr) (l : List Lk) (c : Nat), v = .slice A l.length c ∧ l.length ≤ c ∧ c ≤ 9223372036854775807 ∧ (∀ x ∈ l, x.data.length ≤ 9223372036854775807) ∧ LRd W W.heap.size A l := by
  obtain ⟨a0, len, cap, rfl⟩ := okWide_slice Tryd.underlying43 hval
  obtain ⟨fuel, hf⟩ := h
  rcases open_slice Tryd.underlying43 hf with ⟨h0, _⟩ | ⟨a, len', cap', m, n, D, Pl, h0, _, hlc, hcm, hm, _, hel⟩
  · simp only [Value.cells, List.cons.injEq, Value.slice.injEq, and_true] at h0
    obtain ⟨rfl, rfl, rfl⟩ := h0
    exact ⟨none, [], 0, rfl, by simp, by omega, fun x hx => by simp at hx, LRd.nil⟩
  · simp only [Value.cells, List.cons.injEq, Value.slice.injEq, and_true] at h0
    obtain ⟨rfl, rfl, rfl⟩ := h0
    simp only [if_true] at hm
    rw [linkCells] at hel
    obtain ⟨b, off, spot⟩ := a
    rcases Nat.eq_zero_or_pos len with h00 | h00
    · subst h00
      exact ⟨some ⟨b, off, spot⟩, [], cap, rfl, by simp, by simp only [maxLen] at hcm; omega, fun x hx => by simp at hx, LRd.nil⟩
    have hs' : spot = none := by
      obtain ⟨cs, h1, h2⟩ := hel 0 (by omega)
      obtain ⟨x, E, c, rfl, -⟩ := link_trod h2
      have h7 := (World.cells?_some h1).2.2 0 (by decide)
      exact add_zero_mul_spot (spot_none (show W.cell? (((⟨b, off, spot⟩ : Addr).add (0 * 35)).add 0) = some (.int .i64 x.node) from h7))
    subst hs'
    have key : ∀ i, i < len → ∃ x : Lk, b < W.heap.size ∧ LkAt W W.heap.size b (off + i * 35) x := fun i hi => by
      obtain ⟨cs, h1, h2⟩ := hel i (by omega)
      obtain ⟨x, E, c, rfl, hp, h3, h4, h5⟩ := link_trod h2
      obtain ⟨-, -, h6⟩ := World.cells?_some h1
      have h7 := h6 0 (by decide)
      have h8 : W.cell? (((⟨b, off, none⟩ : Addr).add (i * 35)).add 0) = some (.int .i64 x.node) := h7
      simp only [Addr.add_mid] at h6 h8
      refine ⟨x, World.block_lt_of_cell? W _ h8, hp, E, c, fun j v hv => ?_, h3, h4, h5⟩
      have hj : j < 35 := by
        have := (List.getElem?_eq_some_iff.1 hv).1
        rw [x.cells_len _ hp] at this
        exact this
      rw [h6 j hj]
      exact hv
    obtain ⟨C, hC⟩ := choose_lt key
    have hlen : ((List.range len).map C).length = len := by simp
    refine ⟨some ⟨b, off, none⟩, (List.range len).map C, cap, by rw [hlen], by rw [hlen]; exact hlc, by simp only [maxLen] at hcm; omega, fun x hx => ?_, ?_⟩
    · obtain ⟨i, hi, rfl⟩ := List.mem_map.1 hx
      obtain ⟨-, -, D, c, -, h1, h2, -⟩ := hC i (List.mem_range.1 hi)
      omega
    · intro hpos
      rw [hlen] at hpos
      obtain ⟨hb, -⟩ := hC 0 hpos
      refine ⟨b, off, rfl, hb, fun k x hx => ?_⟩
      have hk : k < len := by have := (List.getElem?_eq_some_iff.1 hx).1; omega
      rw [List.getElem?_map, List.getElem?_range hk] at hx
      obtain rfl := Option.some.inj hx
      exact (hC k hk).2
/-- Lists of bytes from address A on. -/
def BRd (w : World) (B : Nat) (A : Option Addr) (l : List (List UInt8)) : Prop := 0 < l.length → ∃ b off, A = some ⟨b, off, none⟩ ∧ b < B ∧ ∀ (k : Nat) x, l[k]? = some x → ∃ D c, w.cell? ⟨b, off + k, none⟩ = some (.slice D x.length c) ∧ x.length ≤ c ∧ c ≤ 9223372036854775807 ∧ RdB w B D x ∧ (D = none → x.length = 0 ∧ c = 0)
theorem BRd.below {w w' : World} {B : Nat} {A : Option Addr} {l : List (List UInt8)} (h : BRd w B A l) (hb : Below B w w') : BRd w' B A l := fun hn => by
  obtain ⟨b, off, e, hB, hc⟩ := h hn
  refine ⟨b, off, e, hB, fun k x hx => ?_⟩
  obtain ⟨D, c, h1, h2, h3, h4, h5⟩ := hc k x hx
  exact ⟨D, c, (hb.cell (p := ⟨b, off + k, none⟩) hB).trans h1, h2, h3, h4.below hb, h5⟩
theorem open_bytes2 {W : World} {v : Value} {d : DataW H} {ps : List MemPlace} {r : Reach} {b0 : Nat} (hval : Value.okWide Tryd.prog W r b0 39 v) (h : DataW.Trod enc Tryd.prog W 0 (fun _ => true) true 39 v d ps) :
    ∃ (A : Option Addr) (l : List UInt8) (c : Nat), v = .slice A l.length c ∧ l.length ≤ c ∧ c ≤ 9223372036854775807 ∧ (A = none → l.length = 0 ∧ c = 0) ∧ RdB W W.heap.size A l := by
  obtain ⟨a0, len, cap, rfl⟩ := okWide_slice Tryd.underlying39 hval
  obtain ⟨fuel, hf⟩ := h
  obtain ⟨A, l, c, e, h1, h2, h3, h4⟩ := bytes_trod hf
  exact ⟨A, l, c, e, h1, h2, h4, h3⟩
theorem open_bytess {W : World} {v : Value} {d : DataW H} {ps : List MemPlace} {r : Reach} {b0 : Nat} (hval : Value.okWide Tryd.prog W r b0 50 v) (h : DataW.Trod enc Tryd.prog W 0 (fun _ => true) true 50 v d ps) :
    ∃ (A : Option Addr) (l : List (List UInt8)) (c : Nat), v = .slice A l.length c ∧ l.length ≤ c ∧ c ≤ 9223372036854775807 ∧ True ∧ BRd W W.heap.size A l := by
  obtain ⟨a0, len, cap, rfl⟩ := okWide_slice Tryd.underlying50 hval
  obtain ⟨fuel, hf⟩ := h
  rcases open_slice1 Tryd.underlying50 bytesCells hf with ⟨h0, _⟩ | ⟨a, len', cap', m, n, V, D, Pl, h0, _, hlc, hcm, hm, _, hel⟩
  · simp only [Value.cells, List.cons.injEq, Value.slice.injEq, and_true] at h0
    obtain ⟨rfl, rfl, rfl⟩ := h0
    exact ⟨none, [], 0, rfl, by simp, by omega, trivial, fun h => absurd h (by simp)⟩
  · simp only [Value.cells, List.cons.injEq, Value.slice.injEq, and_true] at h0
    obtain ⟨rfl, rfl, rfl⟩ := h0
    simp only [if_true] at hm
    have key : ∀ i, i < len → ∃ y : Option Addr × List UInt8 × Nat, V i = .slice y.1 y.2.1.length y.2.2 ∧ y.2.1.length ≤ y.2.2 ∧ y.2.2 ≤ 9223372036854775807 ∧ RdB W W.heap.size y.1 y.2.1 ∧ (y.1 = none → y.2.1.length = 0 ∧ y.2.2 = 0) := fun i hi => by
      obtain ⟨A, l, c, h1⟩ := bytes_trod (hel i (by omega)).2
      exact ⟨(A, l, c), h1⟩
    obtain ⟨C, hC⟩ := choose_lt key
    have hlen : ((List.range len).map fun i => (C i).2.1).length = len := by simp
    refine ⟨some a, (List.range len).map fun i => (C i).2.1, cap, by rw [hlen], by rw [hlen]; exact hlc, by simp only [maxLen] at hcm; omega, trivial, ?_⟩
    intro hpos
    rw [hlen] at hpos
    obtain ⟨b, off, spot⟩ := a
    have h1 := (hel 0 (by omega)).1
    have hs := spot_none h1
    obtain rfl : spot = none := add_zero_spot hs
    simp only [Addr.add_mid] at h1
    refine ⟨b, off, rfl, World.block_lt_of_cell? W _ h1, fun k x hx => ?_⟩
    have hk : k < len := by have := (List.getElem?_eq_some_iff.1 hx).1; omega
    rw [List.getElem?_map, List.getElem?_range hk] at hx
    obtain rfl := Option.some.inj hx
    have h1 := (hel k (by omega)).1
    simp only [Addr.add_mid] at h1
    obtain ⟨e, h2, h3, h4, h5⟩ := hC k hk
    exact ⟨(C k).1, (C k).2.2, by rw [h1, e], h2, h3, h4, h5⟩
end
end Go.Proofs.YtibnikokgbfcdaaDoor

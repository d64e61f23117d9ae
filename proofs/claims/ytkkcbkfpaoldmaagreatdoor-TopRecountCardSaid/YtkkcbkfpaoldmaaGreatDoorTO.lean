/- How the arguments of TopRecount open: a criterion, rows of marks (with their weights), a limit. -/
import Derived.Test.YtkkcbkfpaoldmaaGreatDoorOpens
import Derived.Test.YtkkcbkfpaoldmaaGreatDoorM21
namespace Go.Proofs.YtkkcbkfpaoldmaaGreatDoor
set_option maxRecDepth 100000
open Go Go.Deep Go.ChangeShapes Go.WideShapes Go.ChangeAt Go.RowKit

theorem intsCells : Tryz.prog.cellsOf 25 = 1 := by kernel_rfl
theorem bigCells : Tryz.prog.cellsOf 27 = 2 := by kernel_rfl
theorem ratioCells : Tryz.prog.cellsOf 29 = 4 := by kernel_rfl
theorem critCells : Tryz.prog.cellsOf 23 = 7 := by kernel_rfl
theorem boolCells : Tryz.prog.cellsOf 4 = 1 := by kernel_rfl
theorem strCells : Tryz.prog.cellsOf 9 = 1 := by kernel_rfl
theorem critFields : (match Tryz.prog.underlying 23 with | some (.struct fs) => fs.toList.map (fun f => (f.type, f.offset)) | _ => []) = [(9, 0), (3, 1), (3, 2), (3, 3), (3, 4), (3, 5), (4, 6)] := by kernel_rfl
theorem bigFields : (match Tryz.prog.underlying 27 with | some (.struct fs) => fs.toList.map (fun f => (f.type, f.offset)) | _ => []) = [(4, 0), (25, 1)] := by kernel_rfl
theorem ratioFields : (match Tryz.prog.underlying 29 with | some (.struct fs) => fs.toList.map (fun f => (f.type, f.offset)) | _ => []) = [(27, 0), (27, 2)] := by kernel_rfl
theorem spot_none {W : World} {a : Addr} {v : Value} (h : W.cell? a = some v) : a.spot = none := by
  obtain ⟨b, o, s⟩ := a
  cases s with
  | none => rfl
  | some s =>
    unfold World.cell? at h
    split at h
    · simp at h
    · cases h
theorem intBytes : Tryz.prog.bytesOf 3 = 8 := by kernel_rfl
theorem weights_mem {H : Type} {P : Program} {e : TypeId} {B : Nat} {d : DataW H} {l : List (DataW H)} (h : d ∈ l) (hl : (DataW.weightsAll P e l).all (· ≤ B) = true) : (d.weights P e).all (· ≤ B) = true := by
  induction l with
  | nil => cases h
  | cons x r ih =>
    simp only [DataW.weightsAll, List.all_append, Bool.and_eq_true] at hl
    rcases List.mem_cons.1 h with e1 | e1
    · subst e1; exact hl.1
    · exact ih e1 hl.2
section
variable {H : Type} {enc : TypeId × Value → H}
theorem struct_at {t : TypeId} {fs : Array Field} (hu : Tryz.prog.underlying t = some (.struct fs)) {L : List (TypeId × Nat)} (hf : fs.toList.map (fun f => (f.type, f.offset)) = L) {W : World} {held : Bool} {fuel : Nat} {cs : List Value} {y : DataW H × List MemPlace} (h : DataW.trod enc Tryz.prog W 0 (fun _ => true) held fuel t cs = some y) :
    cs.length = Tryz.prog.cellsOf t ∧ ∀ (i : Nat) ty o, L[i]? = some (ty, o) → ∃ n z, DataW.trod enc Tryz.prog W 0 (fun _ => true) held n ty ((cs.drop o).take (Tryz.prog.cellsOf ty)) = some z := by
  obtain ⟨xs, n, rfl, -, hl, hxl, hel⟩ := DataW.trod_struct hu h
  refine ⟨hl, fun i ty o hi => ?_⟩
  rw [← hf, List.getElem?_map] at hi
  obtain ⟨f, hfi, he⟩ := Option.map_eq_some_iff.1 hi
  obtain ⟨rfl, rfl⟩ := Prod.mk.inj he
  have hi4 : i < fs.size := by
    have := (List.getElem?_eq_some_iff.1 hfi).1
    simpa using this
  have h1 := hel i f (by simpa using hfi)
  rw [List.getElem?_eq_getElem (show i < xs.length by omega)] at h1
  exact ⟨n, _, h1⟩
theorem ints_trod {W : World} {held : Bool} {fuel : Nat} {v : Value} {x : DataW H × List MemPlace} (h : DataW.trod enc Tryz.prog W 0 (fun _ => true) held fuel 25 [v] = some x) :
    ∃ (A : Option Addr) (l : List Int) (c : Nat), v = .slice A l.length c ∧ l.length ≤ c ∧ c ≤ 9223372036854775807 ∧ Rd W W.heap.size A l.length (fun k => .int .i64 (l.getD k 0)) ∧ (A = none → c = 0) ∧ ∀ B, (x.1.weights Tryz.prog 25).all (· ≤ B) = true → l.length * 8 ≤ B := by
  rcases open_slice1 Tryz.underlying25 intCells h with ⟨h0, rfl⟩ | ⟨a, len', cap', m, n, V, D, Pl, h0, _, hlc, hcm, hm, rfl, hel⟩
  · simp only [List.cons.injEq, and_true] at h0
    subst h0
    exact ⟨none, [], 0, rfl, by simp, by omega, Rd.zero, fun _ => rfl, fun B _ => by simp⟩
  · simp only [List.cons.injEq, and_true] at h0
    subst h0
    simp only [if_true] at hm
    have key : ∀ i, i < len' → ∃ c : Int, V i = .int .i64 c := fun i hi => by
      obtain ⟨y, hy, _, hw⟩ := DataW.trod_int Tryz.underlying3 (hel i (by omega)).2
      simp only [List.cons.injEq, and_true] at hy
      exact ⟨y, hy⟩
    obtain ⟨C, hC⟩ := choose_lt key
    have hlen : ((List.range len').map C).length = len' := by simp
    have hb : ∀ B, ((DataW.slice ((List.range len').map D) ((List.range (m - len')).map fun j => D (len' + j))).weights Tryz.prog 25).all (· ≤ B) = true → len' * 8 ≤ B := fun B hB => by
      simp only [DataW.weights, Tryz.underlying25, intBytes, List.all_cons, Bool.and_eq_true, decide_eq_true_eq, List.length_map, List.length_range] at hB
      omega
    refine ⟨some a, (List.range len').map C, cap', by rw [hlen], by rw [hlen]; exact hlc, by simp only [maxLen] at hcm; omega, ?_, (fun e => by cases e), by rw [hlen]; exact hb⟩
    intro hpos
    rw [hlen] at hpos ⊢
    obtain ⟨b, off, spot⟩ := a
    have h1 := (hel 0 (by omega)).1
    have hs := spot_none h1
    obtain rfl : spot = none := hs
    simp only [Addr.add_mid] at h1
    refine ⟨b, off, rfl, World.block_lt_of_cell? W _ h1, fun k hk => ?_⟩
    have h1 := (hel k (by omega)).1
    simp only [Addr.add_mid] at h1
    rw [h1, hC k hk]
    simp [List.getD_eq_getElem?_getD, List.getElem?_range hk]
theorem open_crit {W : World} {v : Value} {d : DataW H} {ps : List MemPlace} {r : Reach} {b0 : Nat} (hval : Value.okWide Tryz.prog W r b0 23 v) (h : DataW.Trod enc Tryz.prog W 0 (fun _ => true) true 23 v d ps) : ∃ x : Crit, v = .agg x.c := by
  obtain ⟨cs, rfl, -⟩ := okWide_struct Tryz.underlying23 hval
  obtain ⟨fuel, hf⟩ := h
  have hfl := critFields
  have hu : ∃ fs, Tryz.prog.underlying 23 = some (.struct fs) := ⟨_, Tryz.underlying23⟩
  obtain ⟨fs, hu⟩ := hu
  rw [hu] at hfl
  simp only at hfl
  obtain ⟨hl, hat⟩ := struct_at hu hfl hf
  rw [critCells] at hl
  have hcs : (Value.agg cs).cells.toList = cs.toList := rfl
  rw [hcs] at hl hat
  obtain ⟨L, hL⟩ : ∃ L, L = cs.toList := ⟨_, rfl⟩
  rw [← hL] at hl hat
  match L, hl with
  | [a0, a1, a2, a3, a4, a5, a6], _ =>
    obtain ⟨n0, z0, h0⟩ := hat 0 _ _ rfl
    obtain ⟨n1, z1, h1⟩ := hat 1 _ _ rfl
    obtain ⟨n2, z2, h2⟩ := hat 2 _ _ rfl
    obtain ⟨n3, z3, h3⟩ := hat 3 _ _ rfl
    obtain ⟨n4, z4, h4⟩ := hat 4 _ _ rfl
    obtain ⟨n5, z5, h5⟩ := hat 5 _ _ rfl
    obtain ⟨n6, z6, h6⟩ := hat 6 _ _ rfl
    rw [strCells] at h0
    rw [intCells] at h1 h2 h3 h4 h5
    rw [boolCells] at h6
    obtain ⟨s0, e0, -, -⟩ := DataW.trod_string Tryz.underlying9 (show DataW.trod enc Tryz.prog W 0 (fun _ => true) true n0 9 [a0] = some z0 from h0)
    obtain ⟨x1, e1, -, -⟩ := DataW.trod_int Tryz.underlying3 (show DataW.trod enc Tryz.prog W 0 (fun _ => true) true n1 3 [a1] = some z1 from h1)
    obtain ⟨x2, e2, -, -⟩ := DataW.trod_int Tryz.underlying3 (show DataW.trod enc Tryz.prog W 0 (fun _ => true) true n2 3 [a2] = some z2 from h2)
    obtain ⟨x3, e3, -, -⟩ := DataW.trod_int Tryz.underlying3 (show DataW.trod enc Tryz.prog W 0 (fun _ => true) true n3 3 [a3] = some z3 from h3)
    obtain ⟨x4, e4, -, -⟩ := DataW.trod_int Tryz.underlying3 (show DataW.trod enc Tryz.prog W 0 (fun _ => true) true n4 3 [a4] = some z4 from h4)
    obtain ⟨x5, e5, -, -⟩ := DataW.trod_int Tryz.underlying3 (show DataW.trod enc Tryz.prog W 0 (fun _ => true) true n5 3 [a5] = some z5 from h5)
    obtain ⟨x6, e6, -⟩ := DataW.trod_bool Tryz.underlying4 (show DataW.trod enc Tryz.prog W 0 (fun _ => true) true n6 4 [a6] = some z6 from h6)
    simp only [List.cons.injEq, and_true] at e0 e1 e2 e3 e4 e5 e6
    subst e0 e1 e2 e3 e4 e5 e6
    refine ⟨⟨s0, x1, x2, x3, x4, x5, x6⟩, ?_⟩
    congr 1
    exact Array.toList_inj.1 (by rw [← hL])
theorem big_trod {W : World} {fuel : Nat} {a b : Value} {x : DataW H × List MemPlace} (h : DataW.trod enc Tryz.prog W 0 (fun _ => true) true fuel 27 [a, b] = some x) :
    ∃ (neg : Bool) (A : Option Addr) (l : List Int) (c : Nat), a = .bool neg ∧ b = .slice A l.length c ∧ l.length ≤ c ∧ c ≤ 9223372036854775807 ∧ (A = none → c = 0) ∧ MRd W W.heap.size A l := by
  have hfl := bigFields
  have hu : ∃ fs, Tryz.prog.underlying 27 = some (.struct fs) := ⟨_, Tryz.underlying27⟩
  obtain ⟨fs, hu⟩ := hu
  rw [hu] at hfl
  simp only at hfl
  obtain ⟨hl, hat⟩ := struct_at hu hfl h
  obtain ⟨n0, z0, h0⟩ := hat 0 _ _ rfl
  obtain ⟨n1, z1, h1⟩ := hat 1 _ _ rfl
  rw [boolCells] at h0
  rw [intsCells] at h1
  obtain ⟨x0, e0, -⟩ := DataW.trod_bool Tryz.underlying4 (show DataW.trod enc Tryz.prog W 0 (fun _ => true) true n0 4 [a] = some z0 from h0)
  obtain ⟨A, l, c, e1, g1, g2, g3, g4, -⟩ := ints_trod (show DataW.trod enc Tryz.prog W 0 (fun _ => true) true n1 25 [b] = some z1 from h1)
  simp only [List.cons.injEq, and_true] at e0
  exact ⟨x0, A, l, c, e0, e1, g1, g2, g4, g3⟩
theorem open_ratio {W : World} {v : Value} {d : DataW H} {ps : List MemPlace} {r : Reach} {b0 : Nat} (hval : Value.okWide Tryz.prog W r b0 29 v) (h : DataW.Trod enc Tryz.prog W 0 (fun _ => true) true 29 v d ps) :
    ∃ (b1 b2 : Bool) (A1 A2 : Option Addr) (n1 c1 n2 c2 : Nat) (p q : List Int), v = .agg (ratD b1 A1 n1 c1 b2 A2 n2 c2) ∧ LimRd W W.heap.size A1 n1 c1 A2 n2 c2 p q := by
  obtain ⟨cs, rfl, -⟩ := okWide_struct Tryz.underlying29 hval
  obtain ⟨fuel, hf⟩ := h
  have hfl := ratioFields
  have hu : ∃ fs, Tryz.prog.underlying 29 = some (.struct fs) := ⟨_, Tryz.underlying29⟩
  obtain ⟨fs, hu⟩ := hu
  rw [hu] at hfl
  simp only at hfl
  obtain ⟨hl, hat⟩ := struct_at hu hfl hf
  rw [ratioCells] at hl
  have hcs : (Value.agg cs).cells.toList = cs.toList := rfl
  rw [hcs] at hl hat
  obtain ⟨L, hL⟩ : ∃ L, L = cs.toList := ⟨_, rfl⟩
  rw [← hL] at hl hat
  match L, hl with
  | [a0, a1, a2, a3], _ =>
    obtain ⟨n0, z0, h0⟩ := hat 0 _ _ rfl
    obtain ⟨n1, z1, h1⟩ := hat 1 _ _ rfl
    rw [bigCells] at h0 h1
    obtain ⟨b1, A1, p, c1, e0, e1, g1, g2, g3, g4⟩ := big_trod (show DataW.trod enc Tryz.prog W 0 (fun _ => true) true n0 27 [a0, a1] = some z0 from h0)
    obtain ⟨b2, A2, q, c2, e2, e3, k1, k2, k3, k4⟩ := big_trod (show DataW.trod enc Tryz.prog W 0 (fun _ => true) true n1 27 [a2, a3] = some z1 from h1)
    subst e0 e1 e2 e3
    refine ⟨b1, b2, A1, A2, p.length, c1, q.length, c2, p, q, ?_, ⟨rfl, rfl, g1, k1, g2, k2, g3, k3, g4, k4⟩⟩
    congr 1
    exact Array.toList_inj.1 (by rw [← hL])
theorem open_intss {W : World} {v : Value} {d : DataW H} {ps : List MemPlace} {r : Reach} {b0 : Nat} (hval : Value.okWide Tryz.prog W r b0 24 v) (h : DataW.Trod enc Tryz.prog W 0 (fun _ => true) true 24 v d ps) :
    ∃ (A : Option Addr) (n c : Nat) (Af : Nat → Option Addr) (Nf Cf : Nat → Nat) (Mf : Nat → Nat → Int), v = .slice A n c ∧ n ≤ 9223372036854775807 ∧ MatRd W W.heap.size A n Af Nf Cf Mf ∧ ∀ B, (d.weights Tryz.prog 24).all (· ≤ B) = true → ∀ k, k < n → Nf k * 8 ≤ B := by
  obtain ⟨a0, len, cap, rfl⟩ := okWide_slice Tryz.underlying24 hval
  obtain ⟨fuel, hf⟩ := h
  rcases open_slice1 Tryz.underlying24 intsCells hf with ⟨h0, _⟩ | ⟨a, len', cap', m, n, V, D, Pl, h0, _, hlc, hcm, hm, hx, hel⟩
  · simp only [Value.cells, List.cons.injEq, Value.slice.injEq, and_true] at h0
    obtain ⟨rfl, rfl, rfl⟩ := h0
    exact ⟨none, 0, 0, fun _ => none, fun _ => 0, fun _ => 0, fun _ _ => 0, rfl, by omega, ⟨Rd.zero, fun k hk => by omega, fun k hk => by omega⟩, fun B _ k hk => by omega⟩
  · simp only [Value.cells, List.cons.injEq, Value.slice.injEq, and_true] at h0
    obtain ⟨rfl, rfl, rfl⟩ := h0
    simp only [if_true] at hm
    have key : ∀ i, i < len → ∃ y : Option Addr × List Int × Nat, V i = .slice y.1 y.2.1.length y.2.2 ∧ y.2.1.length ≤ y.2.2 ∧ y.2.2 ≤ 9223372036854775807 ∧ Rd W W.heap.size y.1 y.2.1.length (fun k => .int .i64 (y.2.1.getD k 0)) ∧ (∀ B, ((D i).weights Tryz.prog 25).all (· ≤ B) = true → y.2.1.length * 8 ≤ B) := fun i hi => by
      obtain ⟨A, l, c, h1, h2, h3, h4, -, h6⟩ := ints_trod (hel i (by omega)).2
      exact ⟨(A, l, c), h1, h2, h3, h4, h6⟩
    obtain ⟨C, hC⟩ := choose_lt key
    refine ⟨some a, len, cap, fun k => (C k).1, fun k => (C k).2.1.length, fun k => (C k).2.2, fun k j => (C k).2.1.getD j 0, rfl, by simp only [maxLen] at hcm; omega, ⟨?_, fun k hk => (hC k hk).2.2.2.1, fun k hk => ⟨(hC k hk).2.1, (hC k hk).2.2.1⟩⟩, fun B hB k hk => ?_⟩
    · intro hpos
      obtain ⟨b, off, spot⟩ := a
      have h1 := (hel 0 (by omega)).1
      have hs := spot_none h1
      obtain rfl : spot = none := hs
      simp only [Addr.add_mid] at h1
      refine ⟨b, off, rfl, World.block_lt_of_cell? W _ h1, fun k hk => ?_⟩
      have h1 := (hel k (by omega)).1
      simp only [Addr.add_mid] at h1
      rw [h1, (hC k hk).1]
    · have hmem : D k ∈ (List.range len).map D := List.mem_map.2 ⟨k, List.mem_range.2 hk, rfl⟩
      have hd : d = DataW.slice ((List.range len).map D) ((List.range (m - len)).map fun j => D (len + j)) := (Prod.mk.inj hx).1
      rw [hd] at hB
      simp only [DataW.weights, Tryz.underlying24, List.all_cons, List.all_append, Bool.and_eq_true] at hB
      exact (hC k hk).2.2.2.2 B (weights_mem hmem hB.2.1)
end
end Go.Proofs.YtkkcbkfpaoldmaaGreatDoor

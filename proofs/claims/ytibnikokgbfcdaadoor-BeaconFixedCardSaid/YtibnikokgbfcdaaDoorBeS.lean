/- Plain facts for the examples of the chapter beacon; slices of pledges and reveals. -/
import Derived.Test.YtibnikokgbfcdaaDoorB9
import Derived.Test.YtibnikokgbfcdaaDoorB7
import Derived.Test.YtibnikokgbfcdaaDoorBSI
namespace Go.Proofs.YtibnikokgbfcdaaDoor
open Go Go.RowKit

def vS : List UInt8 := [1, 2, 3, 0, 0, 0, 0, 0, 0, 0, 0, 0, 0, 0, 0, 0, 0, 0, 0, 0, 0, 0, 0, 0, 0, 0, 0, 0, 0, 0, 0, 0]
theorem vS_len : vS.length = 32 := rfl
def tS : List UInt8 := [2, 32] ++ vS
theorem numB_one (u : Nat) (h : u < 128) : numB u = [UInt8.ofNat u] := numB_small u h
theorem textB_vS : textB vS = tS := by
  rw [textB, vS_len, numB_one 32 (by decide)]
  rfl
theorem commit_vS : commitText 3 vS = [3, 2, 1, 6] ++ tS := by
  simp only [commitText, listB, List.length_cons, List.length_nil, List.flatten_cons, List.flatten_nil, textB_vS, intB]
  rw [numB_one (0 + 1 + 1) (by decide), numB_one (2 * 3) (by decide)]
  rfl
theorem bits_vS0 : bitsText vS 0 = [3, 2] ++ tS ++ [1, 0] := by
  simp only [bitsText, listB, List.length_cons, List.length_nil, List.flatten_cons, List.flatten_nil, textB_vS, intB]
  rw [numB_one (0 + 1 + 1) (by decide), numB_one (2 * 0) (by decide)]
  rfl
theorem bits_vS1 : bitsText vS 1 = [3, 2] ++ tS ++ [1, 2] := by
  simp only [bitsText, listB, List.length_cons, List.length_nil, List.flatten_cons, List.flatten_nil, textB_vS, intB]
  rw [numB_one (0 + 1 + 1) (by decide)]
  rfl
def pS : Pd := ⟨3, commitOf 3 vS⟩
def rS : Pd := ⟨3, vS⟩
theorem pS_len : pS.dg.length = 32 := commitOf_length _ _
theorem form_nil : inForm [] := fun k hk => absurd hk (by simp)
theorem form_one (p : Pd) (h0 : 0 ≤ p.party) (h1 : p.party < 24) : inForm [p] := fun k hk => by
  obtain rfl : k = 0 := by simpa using hk
  exact ⟨h0, h1, fun h => absurd h (by decide)⟩
theorem form_two (p : Pd) : ¬ inForm [p, p] := fun h => by
  have := (h 1 (by simp)).2.2 (by decide)
  exact absurd this (Int.lt_irrefl _)
def d0S : List UInt8 := tagged beaconTag [3, 0]
def d1S : List UInt8 := tagged beaconTag ([3, 1] ++ ([3, 2, 1, 6] ++ tS))
theorem val_nil (m : List Pd) : valueOf [] m = d0S := by
  have : listB [] = [3, 0] := by
    rw [listB, List.length_nil, numB_one 0 (by decide)]
    rfl
  show tagged beaconTag (listB []) = _
  rw [this]
  rfl
theorem opened_S : openedBy [rS] pS = some vS := by
  rw [openedBy_some (form_one rS (by decide) (by decide))]
  exact ⟨List.mem_singleton.2 rfl, rfl⟩
theorem opened_none (p : Pd) : openedBy [] p = none := rfl
theorem missing_S : missingOf [pS] [rS] = [] := by
  have h : (openedBy [rS] pS).isNone = false := by rw [opened_S]; rfl
  rw [missingOf, List.filter_cons, h]
  rfl
theorem pS_party : pS.party.toNat = 3 := rfl
theorem texts_S : textsOf [pS] [rS] = [[3, 2, 1, 6] ++ tS] := by
  have h : (openedBy [rS] pS).map (commitText pS.party.toNat) = some ([3, 2, 1, 6] ++ tS) := by rw [opened_S, Option.map_some, pS_party, commit_vS]
  unfold textsOf
  rw [List.filterMap_cons_some (f := fun p => Option.map (commitText p.party.toNat) (openedBy [rS] p)) h, List.filterMap_nil]
theorem listB_one (e : List UInt8) : listB [e] = [3, 1] ++ e := by
  rw [listB, List.length_singleton, numB_one 1 (by decide), List.flatten_cons, List.flatten_nil, List.append_nil]
  rfl
theorem val_S : valueOf [pS] [rS] = d1S := by rw [valueOf, texts_S, listB_one, d1S]
theorem missing_none (p : Pd) : missingOf [p] [] = [p.party] := rfl
theorem val_none (p : Pd) : valueOf [p] [] = d0S := by
  rw [← val_nil []]
  rfl
theorem commit_S : tagged pledgeTag ([3, 2, 1, 6] ++ tS) = pS.dg := by
  rw [← commit_vS]
  rfl
/-- Pledges or reveals laid one after the other. -/
theorem prd_blk {W : World} {g : Nat} {t : TypeId} {p : Pd} (h : Blk W g t p.cells.toArray) (hp : p.dg.length = 32) : PRd W W.heap.size (some ⟨g, 0, none⟩) [p] := fun _ => by
  refine ⟨g, 0, rfl, h.lt, fun k x hx => ?_⟩
  obtain ⟨hk, hx2⟩ := List.getElem?_eq_some_iff.1 hx
  obtain rfl : k = 0 := by simpa using hk
  obtain rfl := Option.some.inj hx
  exact ⟨hp, rangeAt_of_blk_toArray h⟩
theorem prd_blk2 {W : World} {g : Nat} {t : TypeId} {p : Pd} (h : Blk W g t (p.cells ++ p.cells).toArray) (hp : p.dg.length = 32) : PRd W W.heap.size (some ⟨g, 0, none⟩) [p, p] := fun _ => by
  refine ⟨g, 0, rfl, h.lt, fun k x hx => ?_⟩
  have hr := rangeAt_of_blk_toArray h
  have hl := p.cells_len hp
  rcases k with _ | _ | k
  · obtain rfl := Option.some.inj hx
    refine ⟨hp, fun j v hv => hr j v ?_⟩
    rw [List.getElem?_append_left (List.getElem?_eq_some_iff.1 hv).1]
    exact hv
  · obtain rfl := Option.some.inj hx
    refine ⟨hp, fun j v hv => ?_⟩
    have := hr (33 + j) v (by rw [List.getElem?_append_right (by omega), hl, Nat.add_sub_cancel_left]; exact hv)
    rw [← this]
    congr 2
    omega
  · simp at hx
section
variable {ops : Array Oper} {rest : List Oper} {o : Oper} {a : Act} {Q : Exit → Act → World → Prop}
theorem wpl_gen {P : Program} {W : World} (p : World → Prop) (hp : p W) (h : ∀ W0, p W0 → wpList P ops Q rest a W0) : wpList P ops Q rest a W := h W hp
theorem wp_app_bytes {K : Act → World → Prop} (s x : Operand) (tx : TypeId) (ho : o.op = .call { callee := .builtin .append, args := #[s, x], argTypes := #[39, tx] })
    (base : Nat) {w : World} (v : Value) (n : Nat) (xs : List Value) (hs : a.eval s = v) (hown : w.ownsRow base 5 1 v n xs)
    (xv : Value) (m : Nat) (news : List Value) (hx : a.eval x = xv) (hsrc : Src Tryd.prog 1 tx xv m news w) (h47 : n + m ≤ 140737488355328) (hbase : base ≤ w.heap.size)
    (h : ∀ v' w', w'.ownsRow base 5 1 v' (n + m) (xs ++ news) → Grew w w' v v' → K (a.put o.dst v') w') : Oper.wp Tryd.prog o a w K Q := by
  obtain ⟨v', w', hrun, h2, h3⟩ := run_append_own_src (P := Tryd.prog) w base 39 tx o.type 5 bInfo (.int .u8 0) 1 1 Tryd.underlying39 bInfo_eq bInfo_zero bInfo_size bInfo_bytes rfl v n xs hown _ m news hsrc (by simp only [maxLen]; omega) (by omega) hbase
  unfold Oper.wp execOp
  simp only [ho, resolve, invoke, builtin, Sem.run_bind, Sem.run_pure, Result.andThen_ok, List.map_toArray, List.map_cons, List.map_nil, hs, hx, hrun]
  exact h v' w' h2 h3
theorem yields_neq_same {S : World → Prop} (hw : Region.wanted o (yielded ops a.tmps) = true) (x y : Operand) (t : TypeId) (ho : o.op = .binOp .neq 23 x y t) (d : List UInt8) (hd : d.length = 32)
    (hx : a.eval x = .agg (dig d)) (hy : a.eval y = .agg (dig d)) : YieldsIf Tryd.prog ops S o (.bool false) a := by
  have h := yields_neq_dig (S := S) (ops := ops) (a := a) hw x y t ho d d hd hd hx hy
  simpa using h
end
set_option maxRecDepth 100000 in
theorem built_vS : Tryd.prog.built 23 [(0, .int .u8 1), (1, .int .u8 2), (2, .int .u8 3)] = some (dig vS) := by kernel_rfl
set_option maxRecDepth 100000 in
theorem build_vS {ops : Array Oper} {rest : List Oper} {o : Oper} {a : Act} {Q : Exit → Act → World → Prop} (hgd : o.guard = none) (ho : o.op = .build 23 #[(0, .const (.int .u8 1)), (1, .const (.int .u8 2)), (2, .const (.int .u8 3))]) {w : World}
    (h : wpList Tryd.prog ops Q rest (a.put o.dst (.agg (dig vS))) w) : wpList Tryd.prog ops Q (o :: rest) a w := by
  refine wpList_buildTo hgd 23 _ ho o.dst rfl _ ?_ h
  simp only [List.map_toArray, List.map_cons, List.map_nil, Act.eval]
  exact built_vS
theorem bslp1_32 (k : Int) (a0 a1 a2 a3 a4 a5 a6 a7 a8 a9 a10 a11 a12 a13 a14 a15 a16 a17 a18 a19 a20 a21 a22 a23 a24 a25 a26 a27 a28 a29 a30 a31 : UInt8) (W : World) : (Instr.buildSlice 58 1 #[(0, .agg (⟨k, [a0, a1, a2, a3, a4, a5, a6, a7, a8, a9, a10, a11, a12, a13, a14, a15, a16, a17, a18, a19, a20, a21, a22, a23, a24, a25, a26, a27, a28, a29, a30, a31]⟩ : Pd).cells.toArray)]).run Tryd.prog W = .ok (.slice (some ⟨W.heap.size, 0, none⟩) 1 1) (W.alloc (.cells (⟨k, [a0, a1, a2, a3, a4, a5, a6, a7, a8, a9, a10, a11, a12, a13, a14, a15, a16, a17, a18, a19, a20, a21, a22, a23, a24, a25, a26, a27, a28, a29, a30, a31]⟩ : Pd).cells.toArray 61)) := by kernel_rfl
theorem bslp1 {ops : Array Oper} {rest : List Oper} {o : Oper} {a : Act} {w : World} {Q : Exit → Act → World → Prop} (hgd : o.guard = none) (x : Operand) (ho : o.op = .buildSlice 58 1 #[(0, x)]) (p : Pd) (hp : p.dg.length = 32) (hx : a.eval x = .agg p.cells.toArray)
    (h : wpList Tryd.prog ops Q rest (a.put o.dst (.slice (some ⟨w.heap.size, 0, none⟩) 1 1)) (w.alloc (.cells p.cells.toArray 61))) : wpList Tryd.prog ops Q (o :: rest) a w := by
  obtain ⟨k, dg⟩ := p
  obtain ⟨a0, a1, a2, a3, a4, a5, a6, a7, a8, a9, a10, a11, a12, a13, a14, a15, a16, a17, a18, a19, a20, a21, a22, a23, a24, a25, a26, a27, a28, a29, a30, a31, rfl⟩ := dig32 hp
  refine wpList_plain hgd fun _ hK => ?_
  unfold Oper.wp execOp
  simp only [ho, List.map_toArray, List.map_cons, List.map_nil, hx, bslp1_32, Sem.run_bind, Sem.run_pure, Result.andThen_ok]
  exact hK _ _ h
theorem bslr1_32 (k : Int) (a0 a1 a2 a3 a4 a5 a6 a7 a8 a9 a10 a11 a12 a13 a14 a15 a16 a17 a18 a19 a20 a21 a22 a23 a24 a25 a26 a27 a28 a29 a30 a31 : UInt8) (W : World) : (Instr.buildSlice 59 1 #[(0, .agg (⟨k, [a0, a1, a2, a3, a4, a5, a6, a7, a8, a9, a10, a11, a12, a13, a14, a15, a16, a17, a18, a19, a20, a21, a22, a23, a24, a25, a26, a27, a28, a29, a30, a31]⟩ : Pd).cells.toArray)]).run Tryd.prog W = .ok (.slice (some ⟨W.heap.size, 0, none⟩) 1 1) (W.alloc (.cells (⟨k, [a0, a1, a2, a3, a4, a5, a6, a7, a8, a9, a10, a11, a12, a13, a14, a15, a16, a17, a18, a19, a20, a21, a22, a23, a24, a25, a26, a27, a28, a29, a30, a31]⟩ : Pd).cells.toArray 69)) := by kernel_rfl
theorem bslr1 {ops : Array Oper} {rest : List Oper} {o : Oper} {a : Act} {w : World} {Q : Exit → Act → World → Prop} (hgd : o.guard = none) (x : Operand) (ho : o.op = .buildSlice 59 1 #[(0, x)]) (p : Pd) (hp : p.dg.length = 32) (hx : a.eval x = .agg p.cells.toArray)
    (h : wpList Tryd.prog ops Q rest (a.put o.dst (.slice (some ⟨w.heap.size, 0, none⟩) 1 1)) (w.alloc (.cells p.cells.toArray 69))) : wpList Tryd.prog ops Q (o :: rest) a w := by
  obtain ⟨k, dg⟩ := p
  obtain ⟨a0, a1, a2, a3, a4, a5, a6, a7, a8, a9, a10, a11, a12, a13, a14, a15, a16, a17, a18, a19, a20, a21, a22, a23, a24, a25, a26, a27, a28, a29, a30, a31, rfl⟩ := dig32 hp
  refine wpList_plain hgd fun _ hK => ?_
  unfold Oper.wp execOp
  simp only [ho, List.map_toArray, List.map_cons, List.map_nil, hx, bslr1_32, Sem.run_bind, Sem.run_pure, Result.andThen_ok]
  exact hK _ _ h
theorem bslp2_32 (k : Int) (a0 a1 a2 a3 a4 a5 a6 a7 a8 a9 a10 a11 a12 a13 a14 a15 a16 a17 a18 a19 a20 a21 a22 a23 a24 a25 a26 a27 a28 a29 a30 a31 : UInt8) (W : World) : (Instr.buildSlice 58 2 #[(0, .agg (⟨k, [a0, a1, a2, a3, a4, a5, a6, a7, a8, a9, a10, a11, a12, a13, a14, a15, a16, a17, a18, a19, a20, a21, a22, a23, a24, a25, a26, a27, a28, a29, a30, a31]⟩ : Pd).cells.toArray), (1, .agg (⟨k, [a0, a1, a2, a3, a4, a5, a6, a7, a8, a9, a10, a11, a12, a13, a14, a15, a16, a17, a18, a19, a20, a21, a22, a23, a24, a25, a26, a27, a28, a29, a30, a31]⟩ : Pd).cells.toArray)]).run Tryd.prog W = .ok (.slice (some ⟨W.heap.size, 0, none⟩) 2 2) (W.alloc (.cells ((⟨k, [a0, a1, a2, a3, a4, a5, a6, a7, a8, a9, a10, a11, a12, a13, a14, a15, a16, a17, a18, a19, a20, a21, a22, a23, a24, a25, a26, a27, a28, a29, a30, a31]⟩ : Pd).cells ++ (⟨k, [a0, a1, a2, a3, a4, a5, a6, a7, a8, a9, a10, a11, a12, a13, a14, a15, a16, a17, a18, a19, a20, a21, a22, a23, a24, a25, a26, a27, a28, a29, a30, a31]⟩ : Pd).cells).toArray 61)) := by kernel_rfl
theorem bslp2 {ops : Array Oper} {rest : List Oper} {o : Oper} {a : Act} {w : World} {Q : Exit → Act → World → Prop} (hgd : o.guard = none) (x y : Operand) (ho : o.op = .buildSlice 58 2 #[(0, x), (1, y)]) (p : Pd) (hp : p.dg.length = 32) (hx : a.eval x = .agg p.cells.toArray) (hy : a.eval y = .agg p.cells.toArray)
    (h : wpList Tryd.prog ops Q rest (a.put o.dst (.slice (some ⟨w.heap.size, 0, none⟩) 2 2)) (w.alloc (.cells (p.cells ++ p.cells).toArray 61))) : wpList Tryd.prog ops Q (o :: rest) a w := by
  obtain ⟨k, dg⟩ := p
  obtain ⟨a0, a1, a2, a3, a4, a5, a6, a7, a8, a9, a10, a11, a12, a13, a14, a15, a16, a17, a18, a19, a20, a21, a22, a23, a24, a25, a26, a27, a28, a29, a30, a31, rfl⟩ := dig32 hp
  refine wpList_plain hgd fun _ hK => ?_
  unfold Oper.wp execOp
  simp only [ho, List.map_toArray, List.map_cons, List.map_nil, hx, hy, bslp2_32, Sem.run_bind, Sem.run_pure, Result.andThen_ok]
  exact hK _ _ h
end Go.Proofs.YtibnikokgbfcdaaDoor

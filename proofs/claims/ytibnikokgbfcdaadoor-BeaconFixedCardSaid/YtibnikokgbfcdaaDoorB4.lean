/- Pledges and reveals: built, loaded, stored; walk: beacon.Make. -/
import Derived.Test.YtibnikokgbfcdaaDoorB3
import Derived.BigGuardPart
namespace Go.Proofs.YtibnikokgbfcdaaDoor
open Go Go.RowKit

theorem dcons_of {l : List UInt8} {n : Nat} (h : l.length = n + 1) : ∃ a t, l = a :: t ∧ t.length = n := by
  cases l with
  | nil => simp at h
  | cons a t => exact ⟨a, t, rfl, by simpa using h⟩
theorem dig32 {l : List UInt8} (h : l.length = 32) : ∃ a0 a1 a2 a3 a4 a5 a6 a7 a8 a9 a10 a11 a12 a13 a14 a15 a16 a17 a18 a19 a20 a21 a22 a23 a24 a25 a26 a27 a28 a29 a30 a31, l = [a0, a1, a2, a3, a4, a5, a6, a7, a8, a9, a10, a11, a12, a13, a14, a15, a16, a17, a18, a19, a20, a21, a22, a23, a24, a25, a26, a27, a28, a29, a30, a31] := by
  obtain ⟨a0, l1, rfl, h1⟩ := dcons_of h
  obtain ⟨a1, l2, rfl, h2⟩ := dcons_of h1
  obtain ⟨a2, l3, rfl, h3⟩ := dcons_of h2
  obtain ⟨a3, l4, rfl, h4⟩ := dcons_of h3
  obtain ⟨a4, l5, rfl, h5⟩ := dcons_of h4
  obtain ⟨a5, l6, rfl, h6⟩ := dcons_of h5
  obtain ⟨a6, l7, rfl, h7⟩ := dcons_of h6
  obtain ⟨a7, l8, rfl, h8⟩ := dcons_of h7
  obtain ⟨a8, l9, rfl, h9⟩ := dcons_of h8
  obtain ⟨a9, l10, rfl, h10⟩ := dcons_of h9
  obtain ⟨a10, l11, rfl, h11⟩ := dcons_of h10
  obtain ⟨a11, l12, rfl, h12⟩ := dcons_of h11
  obtain ⟨a12, l13, rfl, h13⟩ := dcons_of h12
  obtain ⟨a13, l14, rfl, h14⟩ := dcons_of h13
  obtain ⟨a14, l15, rfl, h15⟩ := dcons_of h14
  obtain ⟨a15, l16, rfl, h16⟩ := dcons_of h15
  obtain ⟨a16, l17, rfl, h17⟩ := dcons_of h16
  obtain ⟨a17, l18, rfl, h18⟩ := dcons_of h17
  obtain ⟨a18, l19, rfl, h19⟩ := dcons_of h18
  obtain ⟨a19, l20, rfl, h20⟩ := dcons_of h19
  obtain ⟨a20, l21, rfl, h21⟩ := dcons_of h20
  obtain ⟨a21, l22, rfl, h22⟩ := dcons_of h21
  obtain ⟨a22, l23, rfl, h23⟩ := dcons_of h22
  obtain ⟨a23, l24, rfl, h24⟩ := dcons_of h23
  obtain ⟨a24, l25, rfl, h25⟩ := dcons_of h24
  obtain ⟨a25, l26, rfl, h26⟩ := dcons_of h25
  obtain ⟨a26, l27, rfl, h27⟩ := dcons_of h26
  obtain ⟨a27, l28, rfl, h28⟩ := dcons_of h27
  obtain ⟨a28, l29, rfl, h29⟩ := dcons_of h28
  obtain ⟨a29, l30, rfl, h30⟩ := dcons_of h29
  obtain ⟨a30, l31, rfl, h31⟩ := dcons_of h30
  obtain ⟨a31, l32, rfl, h32⟩ := dcons_of h31
  obtain rfl := List.eq_nil_of_length_eq_zero h32
  exact ⟨a0, a1, a2, a3, a4, a5, a6, a7, a8, a9, a10, a11, a12, a13, a14, a15, a16, a17, a18, a19, a20, a21, a22, a23, a24, a25, a26, a27, a28, a29, a30, a31, rfl⟩
def zpd : Pd := ⟨0, List.replicate 32 0⟩
theorem built_pledge0 : Tryd.prog.built 61 [] = some zpd.cells.toArray := by kernel_rfl
theorem built_pledge32 (k : Int) (a0 a1 a2 a3 a4 a5 a6 a7 a8 a9 a10 a11 a12 a13 a14 a15 a16 a17 a18 a19 a20 a21 a22 a23 a24 a25 a26 a27 a28 a29 a30 a31 : UInt8) : Tryd.prog.built 61 [(0, .int .i64 k), (1, .agg (dig [a0, a1, a2, a3, a4, a5, a6, a7, a8, a9, a10, a11, a12, a13, a14, a15, a16, a17, a18, a19, a20, a21, a22, a23, a24, a25, a26, a27, a28, a29, a30, a31]))] = some (⟨k, [a0, a1, a2, a3, a4, a5, a6, a7, a8, a9, a10, a11, a12, a13, a14, a15, a16, a17, a18, a19, a20, a21, a22, a23, a24, a25, a26, a27, a28, a29, a30, a31]⟩ : Pd).cells.toArray := by kernel_rfl
theorem built_reveal32 (k : Int) (a0 a1 a2 a3 a4 a5 a6 a7 a8 a9 a10 a11 a12 a13 a14 a15 a16 a17 a18 a19 a20 a21 a22 a23 a24 a25 a26 a27 a28 a29 a30 a31 : UInt8) : Tryd.prog.built 69 [(0, .int .i64 k), (1, .agg (dig [a0, a1, a2, a3, a4, a5, a6, a7, a8, a9, a10, a11, a12, a13, a14, a15, a16, a17, a18, a19, a20, a21, a22, a23, a24, a25, a26, a27, a28, a29, a30, a31]))] = some (⟨k, [a0, a1, a2, a3, a4, a5, a6, a7, a8, a9, a10, a11, a12, a13, a14, a15, a16, a17, a18, a19, a20, a21, a22, a23, a24, a25, a26, a27, a28, a29, a30, a31]⟩ : Pd).cells.toArray := by kernel_rfl
theorem built_pledge (k : Int) (H : List UInt8) (hH : H.length = 32) : Tryd.prog.built 61 [(0, .int .i64 k), (1, .agg (dig H))] = some (⟨k, H⟩ : Pd).cells.toArray := by
  obtain ⟨a0, a1, a2, a3, a4, a5, a6, a7, a8, a9, a10, a11, a12, a13, a14, a15, a16, a17, a18, a19, a20, a21, a22, a23, a24, a25, a26, a27, a28, a29, a30, a31, rfl⟩ := dig32 hH
  exact built_pledge32 ..
theorem built_reveal (k : Int) (H : List UInt8) (hH : H.length = 32) : Tryd.prog.built 69 [(0, .int .i64 k), (1, .agg (dig H))] = some (⟨k, H⟩ : Pd).cells.toArray := by
  obtain ⟨a0, a1, a2, a3, a4, a5, a6, a7, a8, a9, a10, a11, a12, a13, a14, a15, a16, a17, a18, a19, a20, a21, a22, a23, a24, a25, a26, a27, a28, a29, a30, a31, rfl⟩ := dig32 hH
  exact built_reveal32 ..
section
variable {ops : Array Oper} {rest : List Oper} {o : Oper} {a : Act} {Q : Exit → Act → World → Prop}
theorem build_pd {t : TypeId} (hT : ∀ (k : Int) (H : List UInt8), H.length = 32 → Tryd.prog.built t [(0, .int .i64 k), (1, .agg (dig H))] = some (⟨k, H⟩ : Pd).cells.toArray) (hgd : o.guard = none) (p0 p1 : Operand) (ho : o.op = .build t #[(0, p0), (1, p1)])
    {w : World} (k : Int) (H : List UInt8) (hH : H.length = 32) (h0 : a.eval p0 = .int .i64 k) (h1 : a.eval p1 = .agg (dig H)) (h : wpList Tryd.prog ops Q rest (a.put o.dst (.agg (⟨k, H⟩ : Pd).cells.toArray)) w) : wpList Tryd.prog ops Q (o :: rest) a w := by
  have hb := hT k H hH
  refine wpList_buildTo hgd t _ ho o.dst rfl _ ?_ h
  simp only [List.map_toArray, List.map_cons, List.map_nil, h0, h1]
  exact hb
set_option maxRecDepth 100000 in
theorem build_pd0 (hgd : o.guard = none) (ho : o.op = .build 61 #[]) {w : World} (h : wpList Tryd.prog ops Q rest (a.put o.dst (.agg zpd.cells.toArray)) w) : wpList Tryd.prog ops Q (o :: rest) a w := by
  refine wpList_buildTo hgd 61 _ ho o.dst rfl _ ?_ h
  simp only [List.map_toArray, List.map_nil]
  exact built_pledge0
theorem load_pd {t : TypeId} (hT : PdType t) (hi : (Tryd.prog.info? t).map (·.size) = some 33) (hgd : o.guard = none) (p : Operand) (ho : o.op = .load t p) {w : World} (b off : Nat) (x : Pd) (hl : PdAt w b off x) (hx : a.eval p = .pointer (some ⟨b, off, none⟩))
    (h : wpList Tryd.prog ops Q rest (a.put o.dst (.agg x.cells.toArray)) w) : wpList Tryd.prog ops Q (o :: rest) a w := by
  obtain ⟨-, fs, hu, -⟩ := hT
  exact wpList_load_mid hgd _ p ho b off hx x.cells _ hl.2 hu rfl (by rw [x.cells_len hl.1]; exact hi) h
theorem store_pd {t : TypeId} (hi : (Tryd.prog.info? t).map (·.size) = some 33) (hgd : o.guard = none) (p y : Operand) (ho : o.op = .store t p y) {w : World} {g : Nat} {c : Array Value} {tt : TypeId} (hg : Blk w g tt c) (x : Pd) (hl : x.dg.length = 32)
    (hx : a.eval p = .pointer (some ⟨g, 0, none⟩)) (hy : a.eval y = .agg x.cells.toArray) (hold : c.size = 33)
    (h : ∀ w', Blk w' g tt x.cells.toArray → Only w w' g → w'.heap.size = w.heap.size → wpList Tryd.prog ops Q rest (a.put o.dst undef) w') : wpList Tryd.prog ops Q (o :: rest) a w :=
  wpList_store_row hgd _ p y ho g _ hx hy tt c hg (by rw [List.size_toArray, x.cells_len hl]; exact hi) (by rw [hold, List.size_toArray, x.cells_len hl]) (all_oneCell_toArray x.one)
    (h _ (setRow_heap w g c _ tt _ hg) ⟨rfl, rfl, rfl, by simp, fun i _ hne => setRow_other w g i _ (fun e => hne (by rw [e]))⟩ (by simp))
end
set_option linter.unusedVariables false in
theorem Pd.at_dg (p : Pd) (h : p.dg.length = 32) (j : Nat) (hj : j < 32) : p.cells[1 + j]? = (dig p.dg)[j]? := by
  rw [show 1 + j = j + 1 by omega]
  show (dig p.dg).toList[j]? = _
  simp
/-- A pledge in a block of its own. -/
theorem pd_party {w : World} {g : Nat} {t : TypeId} {p : Pd} (h : Blk w g t p.cells.toArray) : w.cell? ⟨g, 0, none⟩ = some (.int .i64 p.party) := h.cell 0
theorem pd_dg {w : World} {g : Nat} {t : TypeId} {p : Pd} (h : Blk w g t p.cells.toArray) (hp : p.dg.length = 32) : w.rangeAt g 1 (dig p.dg).toList := fun j v hv => by
  have hj : j < 32 := by have := (List.getElem?_eq_some_iff.1 hv).1; simpa [dig_size, hp] using this
  rw [h.cell, List.getElem?_toArray, p.at_dg hp j hj]
  simpa using hv
/-- What beacon.Make returns. -/
def makeOf (k : Int) (v : List UInt8) : Pd × Int := if 0 ≤ k ∧ k < 24 then (⟨k, commitOf k.toNat v⟩, 0) else (zpd, 310)
def makeV (r : Pd × Int) : Value := .tuple #[.agg r.1.cells.toArray, .int .i64 r.2]
theorem commitText_len (k : Nat) (v : List UInt8) (hk : k < 4611686018427387000) (hv : v.length = 32) : (commitText k v).length ≤ 1000 := by
  have a1 := numB_len10 32 (by omega)
  have a2 := numB_len10 (2 * k) (by omega)
  have a3 := numB_len10 (0 + 1 + 1) (by omega)
  simp only [commitText, listB, textB, intB, List.length_cons, List.length_append, List.flatten_cons, List.flatten_nil, List.length_nil, hv]
  omega
theorem commitOf_length (k : Nat) (v : List UInt8) : (commitOf k v).length = 32 := tagged_length _ _
theorem enc_pair (w : World) (k : Nat) (v : List UInt8) (hk : k ≤ 4611686018427387000) : ∀ (i : Nat) x e, ([Bt.num k, Bt.dig v] : List Bt)[i]? = some x → [intB k, textB v][i]? = some e → Enc w x.v4 0 e := by
  intro i x e hx he
  rcases i with _ | _ | i
  · obtain rfl := Option.some.inj hx
    obtain rfl := Option.some.inj he
    exact enc_int w k (by omega)
  · obtain rfl := Option.some.inj hx
    obtain rfl := Option.some.inj he
    exact enc_text w ⟨v.toArray⟩
  · cases hx
theorem pair_ok (k : Nat) (v : List UInt8) (hk : k ≤ 4611686018427387000) (hv : v.length = 32) : ∀ x ∈ ([Bt.num k, Bt.dig v] : List Bt), x.ok := by
  intro x hx
  simp only [List.mem_cons, List.not_mem_nil, or_false] at hx
  rcases hx with rfl | rfl
  · exact hk
  · exact hv
theorem pair_rd {w : World} {g : Nat} {t : TypeId} {k : Nat} {v : List UInt8} (h : Blk w g t #[.iface 3 (.int .i64 k), .iface 23 (.agg (dig v))]) : Rd w w.heap.size (some ⟨g, 0, none⟩) 2 (fun j => ([Bt.num k, Bt.dig v].getD j (.num 0)).iface) :=
  Rd.of_blk h h.lt fun j hj => by rcases j with _ | _ | j <;> first | rfl | omega
/-- tagged of a number and a digest. -/
theorem btag_pair (s : ByteArray) (hs : s.size ≤ 1000) (k : Nat) (v : List UInt8) (hk : k < 4611686018427387000) (hv : v.length = 32) (w : World) (hL : Laid w) (g : Nat) (t : TypeId) (h : Blk w g t #[.iface 3 (.int .i64 k), .iface 23 (.agg (dig v))]) :
    Calls Tryd.prog 88 #[.string s, .slice (some ⟨g, 0, none⟩) 2 2] w (Ret (.agg (dig (tagged s.data.toList (commitText k v)))) w) :=
  btagged_any s hs [.num k, .dig v] [intB k, textB v] 0 _ 2 2 rfl rfl w hL (pair_rd h) (by omega) (pair_ok k v (by omega) hv) (by omega) (by have := commitText_len k v hk hv; unfold commitText at this; omega) (enc_pair w k v (by omega))
set_option maxRecDepth 100000 in
set_option linter.unusedSimpArgs false in
set_option maxHeartbeats 4000000 in
theorem bMake_good (k : Nat) (hk : k < 24) (v : List UInt8) (hv : v.length = 32) (w : World) (hL : Laid w) : Calls Tryd.prog 49 #[.int .i64 k, .agg (dig v)] w (Ret (makeV (⟨k, commitOf k v⟩, 0)) w) := by
  have HL := Lib.hid hL
  have HT := Lib.hid (fun W hW g (h : Blk W g 20 #[.iface 3 (.int .i64 k), .iface 23 (.agg (dig v))]) => btag_pair ⟨#[112, 108, 101, 100, 103, 101]⟩ (by decide) k v (by omega) hv W hW g _ h)
  have hc := commitOf_length k v
  have HC := Lib.hid (show commitOf k v = tagged (ByteArray.mk #[112, 108, 101, 100, 103, 101]).data.toList (commitText k v) from rfl)
  rw [← HC.out] at HT
  obtain ⟨C, hC⟩ : ∃ C, C = commitOf k v := ⟨_, rfl⟩
  rw [← hC] at HT hc ⊢
  have g1 : decide ((k : Int) < 0) = false := decide_eq_false (by omega)
  have g2 : decide ((24 : Int) ≤ (k : Int)) = false := decide_eq_false (by omega)
  clear hL hC HC
  go_enter Tryd.func49, Tryd.ntmps49
  go_wp2_with (refine load_dig rfl _ rfl v hv ((Blk.new w _ _).alloc _) rfl ?_)
  have hB1 : Below w.heap.size w (((w.alloc (.cells (dig v) 23)).alloc (.cells zpd.cells.toArray 61)).alloc (.cells #[.iface 3 (.int .i64 k), .iface 23 (.agg (dig v))] 20)) := (((Below.refl _ w).alloc (Nat.le_refl _) _).alloc (by simp) _).alloc (by simp; omega) _
  refine (HT.out _ (HL.out.below hB1) _ (Blk.new' _ _ _ (by simp))).mono ?_
  rintro e w1 ⟨rfl, hb1⟩
  have hB2 := hB1.trans (hb1.mono hB1.size)
  have hP : Blk w1 (w.heap.size + 1) 61 zpd.cells.toArray := (((Blk.new' _ _ _ (by simp)).alloc _) : Blk (((w.alloc (.cells (dig v) 23)).alloc (.cells zpd.cells.toArray 61)).alloc (.cells #[.iface 3 (.int .i64 k), .iface 23 (.agg (dig v))] 20)) (w.heap.size + 1) 61 zpd.cells.toArray).below hb1 (by simp only [World.size_alloc]; omega)
  clear hB1 hb1
  go_wp2_with (first
    | (refine build_pd built_pledge rfl _ _ rfl (k : Int) C hc rfl rfl ?_)
    | (refine store_pd pledgeInfo rfl _ _ rfl hP ⟨(k : Int), C⟩ hc rfl rfl rfl ?_; intro w8 hD8 hO8 hz8))
  refine bodyPost_ret (results_row_tmp rfl _ _ (w.heap.size + 1) 61 _ (0, 0) _ (.int .i64 0) rfl rfl hD8 Tryd.underlying61 rfl (by rw [List.size_toArray, Pd.cells_len _ hc]; exact pledgeInfo)) rfl ?_
  exact ⟨rfl, hB2.trans (hO8.toBelow hB2.size (Nat.le_succ _))⟩
set_option maxRecDepth 100000 in
set_option linter.unusedSimpArgs false in
set_option maxHeartbeats 4000000 in
theorem bMake_bad (k : Int) (hk : ¬ (0 ≤ k ∧ k < 24)) (v : List UInt8) (w : World) : Calls Tryd.prog 49 #[.int .i64 k, .agg (dig v)] w (Ret (makeV (zpd, 310)) w) := by
  have hP : Blk ((w.alloc (.cells (dig v) 23)).alloc (.cells zpd.cells.toArray 61)) (w.heap.size + 1) 61 zpd.cells.toArray := Blk.new' _ _ _ (by simp)
  have hB1 : Below w.heap.size w ((w.alloc (.cells (dig v) 23)).alloc (.cells zpd.cells.toArray 61)) := ((Below.refl _ w).alloc (Nat.le_refl _) _).alloc (by simp) _
  by_cases t1 : k < 0
  · have g1 : decide (k < 0) = true := decide_eq_true t1
    clear hk
    go_enter Tryd.func49, Tryd.ntmps49
    go_wp2_with (first
      | (refine wpList_skip (by rfl) ?_)
      | (refine build_pd0 rfl rfl ?_)
      | (refine store_pd pledgeInfo rfl _ _ rfl hP zpd rfl rfl rfl rfl ?_; intro w8 hD8 hO8 hz8))
    refine bodyPost_ret (results_row_tmp rfl _ _ (w.heap.size + 1) 61 _ (0, 0) _ (.int .i64 310) rfl rfl hD8 Tryd.underlying61 rfl (by exact pledgeInfo)) rfl ?_
    exact ⟨rfl, hB1.trans (hO8.toBelow hB1.size (Nat.le_succ _))⟩
  · have g1 : decide (k < 0) = false := decide_eq_false t1
    have g2 : decide (24 ≤ k) = true := decide_eq_true (by omega)
    clear hk
    go_enter Tryd.func49, Tryd.ntmps49
    go_wp2_with (first
      | (refine build_pd0 rfl rfl ?_)
      | (refine store_pd pledgeInfo rfl _ _ rfl hP zpd rfl rfl rfl rfl ?_; intro w8 hD8 hO8 hz8))
    refine bodyPost_ret (results_row_tmp rfl _ _ (w.heap.size + 1) 61 _ (0, 0) _ (.int .i64 310) rfl rfl hD8 Tryd.underlying61 rfl (by exact pledgeInfo)) rfl ?_
    exact ⟨rfl, hB1.trans (hO8.toBelow hB1.size (Nat.le_succ _))⟩
theorem bMake_any (k : Int) (v : List UInt8) (hv : v.length = 32) (w : World) (hL : Laid w) : Calls Tryd.prog 49 #[.int .i64 k, .agg (dig v)] w (Ret (makeV (makeOf k v)) w) := by
  by_cases h : 0 ≤ k ∧ k < 24
  · rw [makeOf, if_pos h]
    obtain ⟨n, rfl⟩ : ∃ n : Nat, k = n := ⟨k.toNat, by omega⟩
    exact bMake_good n (by omega) v hv w hL
  · rw [makeOf, if_neg h]
    exact bMake_bad k h v w
end Go.Proofs.YtibnikokgbfcdaaDoor

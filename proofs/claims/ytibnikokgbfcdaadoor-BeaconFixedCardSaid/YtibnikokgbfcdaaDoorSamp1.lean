/- Several texts in one: S1, S2, S3, S4. -/
import Derived.Test.YtibnikokgbfcdaaDoorDraw1
import Derived.Test.YtibnikokgbfcdaaDoorR678
import Derived.Test.YtibnikokgbfcdaaDoorBase
import Derived.RangeFuncOwn
import Derived.Deep.MidRow
/- Walk: sample.Draw. -/
namespace Go.Proofs.YtibnikokgbfcdaaDoor
open Go.RowKit

/-- The first k numbers of l lie in a block of the call's own; nothing is said where k is 0. -/
def Held (w : World) (base : Nat) (A : Option Addr) (k : Nat) (l : List Int) : Prop :=
  k = 0 ∨ ∃ g cs, A = some ⟨g, 0, none⟩ ∧ base ≤ g ∧ Blk w g 3 cs ∧ k ≤ cs.size ∧ ∀ j, j < k → cs[j]? = some (.int .i64 (l.getD j 0))
theorem Held.below {w w' : World} {base : Nat} {A : Option Addr} {k : Nat} {l : List Int} (h : Held w base A k l) (hb : Below w.heap.size w w') : Held w' base A k l := by
  rcases h with h | ⟨g, cs, h1, h2, h3, h4, h5⟩
  · exact .inl h
  · exact .inr ⟨g, cs, h1, h2, h3.below hb h3.lt, h4, h5⟩
theorem Held.rd {w : World} {base : Nat} {A : Option Addr} {k : Nat} {l : List Int} (h : Held w base A k l) : Rd w w.heap.size A k (fun j => .int .i64 (l.getD j 0)) := by
  rcases h with rfl | ⟨g, cs, rfl, h2, h3, h4, h5⟩
  · exact Rd.zero
  · exact Rd.of_blk h3 h3.lt fun j hj => by rw [Nat.zero_add]; exact h5 j hj
def SampPost (d : List UInt8) (n k : Nat) (w : World) (e : Ending) (w' : World) : Prop :=
  ∃ A, e = .returned (.tuple #[.slice A k k, .int .i64 0]) ∧ Held w' w.heap.size A k (orderOf d n) ∧ Below w.heap.size w w'
theorem slice3_some (W : World) (g n c k : Nat) (h : k ≤ n) (hc : n ≤ c) : ∃ A, (A = some ⟨g, 0, none⟩) ∧ (Instr.slice 32 (.slice (some ⟨g, 0, none⟩) n c) none (some (.int .i64 (k : Int))) (some (.int .i64 (k : Int)))).run Tryd.prog W = .ok (.slice A k k) W := by
  have h1 : k ≤ c := by omega
  refine ⟨some ⟨g, 0, none⟩, rfl, ?_⟩
  simp [Instr.slice, run_underlying Tryd.underlying32, Instr.sliceBounds, Instr.sliceBound, asIntOf, h1, Addr.add_mid]
theorem slice3_none (W : World) : (Instr.slice 32 (.slice none 0 0) none (some (.int .i64 ((0 : Nat) : Int))) (some (.int .i64 ((0 : Nat) : Int)))).run Tryd.prog W = .ok (.slice none 0 0) W := by
  simp [Instr.slice, run_underlying Tryd.underlying32, Instr.sliceBounds, Instr.sliceBound, asIntOf]

set_option maxRecDepth 100000 in
set_option maxHeartbeats 2000000 in
theorem sdraw_good (d : List UInt8) (hd : d.length = 32) (n k : Nat) (hk : k ≤ n) (hn : n ≤ 4096) (w : World) (hL : Laid w) :
    Calls Tryd.prog 62 #[.agg (dig d), .int .i64 n, .int .i64 k] w (SampPost d n k w) := by
  have hB0 : Below w.heap.size w (w.alloc (.cells (dig d) 23)) := (Below.refl _ w).alloc (Nat.le_refl _) _
  have HO := Lib.hid (order_good d hd n hn _ (hL.below hB0))
  clear hL
  go_enter Tryd.func62, Tryd.ntmps62
  go_wp2_with (refine load_dig rfl _ rfl d hd (Blk.new w _ _) rfl ?_)
  refine HO.out.mono ?_
  rintro e w1 ⟨v, rfl, hown, hb1⟩
  have hB1 := hB0.trans (hb1.mono hB0.size)
  rcases hown.2 with ⟨hv, h0⟩ | ⟨g, cap, cur, hv, hbg, hg, hnc, hcm, hcs, htake⟩
  · rw [orderOf_length] at h0
    subst h0
    obtain rfl : k = 0 := by omega
    subst hv
    have hsl := fun W => slice3_none W
    clear hown hb1 hB0
    go_wp2_with fail
    go_ret2
    exact ⟨none, rfl, .inl rfl, hB1⟩
  · rw [orderOf_length] at hv hnc htake
    subst hv
    obtain ⟨A, hA, hsl0⟩ := slice3_some w1 g n cap k hk hnc
    have hsl : ∀ W : World, (Instr.slice 32 (.slice (some ⟨g, 0, none⟩) n cap) none (some (.int .i64 (k : Int))) (some (.int .i64 (k : Int)))).run Tryd.prog W = .ok (.slice (some ⟨g, 0, none⟩) k k) W := fun W => by
      obtain ⟨A, rfl, h⟩ := slice3_some W g n cap k hk hnc
      exact h
    have hheld : Held w1 w.heap.size (some ⟨g, 0, none⟩) k (orderOf d n) := by
      refine .inr ⟨g, cur, rfl, Nat.le_trans hB0.size hbg, hg, by omega, fun j hj => ?_⟩
      have h1 := icells_get (orderOf d n) j (by rw [orderOf_length]; omega)
      have h2 : (cur.toList.take (n * 1))[j]? = cur[j]? := by rw [List.getElem?_take_of_lt (by omega)]; simp
      rw [← h2, htake, h1]
    have HH := Lib.hid hheld
    clear hown hb1 hB0 hsl0 hA hheld hg hcs htake hcm hbg
    go_wp2_with fail
    go_ret2
    exact ⟨_, rfl, HH.out, hB1⟩
set_option maxRecDepth 100000 in
set_option maxHeartbeats 1000000 in
theorem sdraw_bad (d : List UInt8) (n k : Int) (h : k < 0 ∨ n < k ∨ 4096 < n) (w : World) : Calls Tryd.prog 62 #[.agg (dig d), .int .i64 n, .int .i64 k] w (BadPost w) := by
  by_cases c1 : k < 0
  · clear h
    go_enter Tryd.func62, Tryd.ntmps62
    go_wp2
    go_ret2
    exact ⟨rfl, (Below.refl _ w).alloc (Nat.le_refl _) _⟩
  by_cases c2 : n < k
  · clear h
    go_enter Tryd.func62, Tryd.ntmps62
    go_wp2
    go_ret2
    exact ⟨rfl, (Below.refl _ w).alloc (Nat.le_refl _) _⟩
  · have c3 : 4096 < n := by omega
    clear h
    go_enter Tryd.func62, Tryd.ntmps62
    go_wp2
    go_ret2
    exact ⟨rfl, (Below.refl _ w).alloc (Nat.le_refl _) _⟩
end Go.Proofs.YtibnikokgbfcdaaDoor

/- Walk: sample.tagged with one integer. -/
namespace Go.Proofs.YtibnikokgbfcdaaDoor
open Go.RowKit

theorem vown_one (w : World) (base : Nat) (hb : base ≤ w.heap.size) (x : V4) : VOwn (w.alloc (.cells #[.int .i64 x.kind, x.n, x.s, x.l] 93)) base (.slice (some ⟨w.heap.size, 0, none⟩) 1 1) [x] :=
  ⟨by simp [vcells, V4.cells], .inr ⟨w.heap.size, 1, _, rfl, hb, heap_alloc_new w _, Nat.le_refl _, by simp only [maxLen]; omega, rfl, by simp [vcells, V4.cells]⟩⟩
/-- What is hashed for a part. -/
def partText (d : List UInt8) (i : Nat) : List UInt8 := listB [textB d, intB i]
def TgRel (w : World) (d : List UInt8) (i : Nat) (x : Value) (wr : World) : Prop :=
  ∃ (j : Nat) (v : Value), ((j = 0 ∧ VOwn wr (w.heap.size + 1 + 1) v [V4.text ⟨d.toArray⟩]) ∨ (j = 1 ∧ VOwn wr (w.heap.size + 1 + 1) v [V4.text ⟨d.toArray⟩, V4.int i])) ∧ x = .int .i64 j ∧
    Blk wr (w.heap.size + 1 + 1 + 1) 93 #[.int .i64 3, .int .i64 0, .string ⟨#[]⟩, v] ∧ v.ownBlock ≠ some (w.heap.size + 1 + 1 + 1) ∧ (∃ z, Blk wr (w.heap.size + 1) 23 z ∧ z.size = 32) ∧ Below w.heap.size w wr

theorem tg_start (w : World) (d : List UInt8) (i : Nat) (z : Array Value) (hz : z.size = 32) :
    TgRel w d i (.int .i64 0) ((((w.alloc (.cells (dig d) 23)).alloc (.cells z 23)).alloc (.cells #[.int .i64 2, .int .i64 0, .string ⟨d.toArray⟩, .slice none 0 0] 93)).alloc (.cells #[.int .i64 3, .int .i64 0, .string ⟨#[]⟩, .slice (some ⟨w.heap.size + 1 + 1, 0, none⟩) 1 1] 93)) := by
  refine ⟨0, .slice (some ⟨w.heap.size + 1 + 1, 0, none⟩) 1 1, .inl ⟨rfl, ?_⟩, rfl, ?_, ?_, ⟨z, ?_, hz⟩, ?_⟩
  · have h := vown_one ((w.alloc (.cells (dig d) 23)).alloc (.cells z 23)) (w.heap.size + 1 + 1) (by simp) (V4.text ⟨d.toArray⟩)
    simp only [World.size_alloc] at h
    exact h.alloc _
  · have h := Blk.new (((w.alloc (.cells (dig d) 23)).alloc (.cells z 23)).alloc (.cells #[.int .i64 2, .int .i64 0, .string ⟨d.toArray⟩, .slice none 0 0] 93)) 93 #[.int .i64 3, .int .i64 0, .string ⟨#[]⟩, .slice (some ⟨w.heap.size + 1 + 1, 0, none⟩) 1 1]
    simp only [World.size_alloc] at h
    exact h
  · intro e
    have : w.heap.size + 1 + 1 = w.heap.size + 1 + 1 + 1 := Option.some.inj e
    omega
  · have h := Blk.new (w.alloc (.cells (dig d) 23)) 23 z
    simp only [World.size_alloc] at h
    exact (h.alloc _).alloc _
  · exact (((Below.refl _ w).alloc (Nat.le_refl _) _).alloc (by simp) _ |>.alloc (by simp; omega) _).alloc (by simp; omega) _
set_option maxRecDepth 100000 in
set_option maxHeartbeats 4000000 in
theorem stagged_any (s : ByteArray) (hs : s.size ≤ 1000) (d : List UInt8) (hd : d.length = 32) (i : Nat) (hi : i ≤ 1000000) (g off c : Nat) (w : World) (hL : Laid w) (hg : w.cell? ⟨g, off, none⟩ = some (.int .i64 i)) :
    Calls Tryd.prog 104 #[.string s, .agg (dig d), .slice (some ⟨g, off, none⟩) 1 c] w (Ret (.agg (dig (tagged s.data.toList (partText d i)))) w) := by
  have hgl := World.block_lt_of_cell? w _ hg
  have HL := Lib.hid hL
  have HG := Lib.hid hg
  clear hL hg
  go_enter Tryd.func104, Tryd.ntmps104
  have hR0 : RdB (w.alloc (.cells (dig d) 23)) (w.heap.size + 1) (some ⟨w.heap.size, 0, none⟩) d := Rd.of_blk (Blk.new w _ _) (Nat.lt_succ_self _) fun k hk => by rw [Nat.zero_add]; exact dig_get d k hk
  go_wp2_with (refine to_str2 rfl _ rfl rfl hd.symm (Rd.alloc hR0 (by simp) _) ?_)
  clear hR0
  go_loopw [19] (fun x wr => TgRel w d i x wr) (fun x _ => 1 - (intOf x).toNat)
  case atStart => exact tg_start w d i _ rfl
  case round =>
    obtain ⟨j, v, hcase, rfl, hX, hvk, hz, hB⟩ := hrel
    have d0 : wr.cell? ⟨w.heap.size + 1 + 1 + 1, 0, none⟩ = some (.int .i64 3) := hX.cell 0
    have d1 : wr.cell? ⟨w.heap.size + 1 + 1 + 1, 1, none⟩ = some (.int .i64 0) := hX.cell 1
    have d2 : wr.cell? ⟨w.heap.size + 1 + 1 + 1, 2, none⟩ = some (.string ⟨#[]⟩) := hX.cell 2
    have d3 : wr.cell? ⟨w.heap.size + 1 + 1 + 1, 3, none⟩ = some v := hX.cell 3
    rcases hcase with ⟨rfl, hown⟩ | ⟨rfl, hown⟩
    · have cg := (hB.cell (p := ⟨g, off, none⟩) hgl).trans HG.out
      have hbs : w.heap.size + 1 + 1 ≤ wr.heap.size := Nat.le_of_lt (Nat.lt_of_succ_lt hX.lt)
      go_wp2_with (at_builtin; refine app_value rfl _ _ rfl (w.heap.size + 1 + 1) v [V4.text ⟨d.toArray⟩] rfl (hown.alloc _) (V4.int i) ⟨rfl, rfl, rfl⟩ (Blk.new _ _ _) rfl (by simp) (by simp; omega) ?_
                   intro v2 w2 hown2 hg2
                   have hv2 : ∃ A2 c2, v2 = .slice A2 2 c2 := by
                     obtain ⟨A2, c2, h, _⟩ := hown2.elems
                     exact ⟨A2, c2, h⟩
                   obtain ⟨A2, c2, rfl⟩ := hv2
                   have hX2 := (hX.alloc (.cells #[.int .i64 1, .int .i64 i, .string ⟨#[]⟩, .slice none 0 0] 93)).grown hg2.1 (fun e => hvk e.symm)
                   have c3 : w2.cell? ⟨w.heap.size + 1 + 1 + 1, 3, none⟩ = some v := hX2.cell 3
                   have f3 : w2.frozen? ⟨w.heap.size + 1 + 1 + 1, 3, none⟩ = false := hX2.frozen 3)
      go_roundw
      case rel =>
        have hg := hg2.alloc_first
        have hvk2 : some (w.heap.size + 1 + 1 + 1) ≠ (Value.slice A2 2 c2).ownBlock := hg2.ne (by simp; have := hX.lt; omega) (fun e => hvk e.symm)
        have hB2 : Below w.heap.size w w2 := hB.trans (hg.below hB.size fun k hk => by have := (World.ownsRow.lt hown _ hk).1; omega)
        obtain ⟨z, hz1, hz2⟩ := hz
        refine ⟨1, .slice A2 2 c2, .inr ⟨rfl, ?_⟩, by go_num, hX2.set 3 (.slice A2 2 c2), fun e => hvk2 e.symm, ⟨z, (hz1.grown hg.1 (fun e => by have := (World.ownsRow.lt hown _ e.symm).1; omega)).far (p := ⟨w.heap.size + 1 + 1 + 1, 3, none⟩) (by show w.heap.size + 1 ≠ w.heap.size + 1 + 1 + 1; omega) _, hz2⟩, hB2.setCell (p := ⟨w.heap.size + 1 + 1 + 1, 3, none⟩) (by show w.heap.size ≤ w.heap.size + 1 + 1 + 1; omega) _⟩
        exact World.ownsRow.kept hown2 (row := some (w.heap.size + 1 + 1 + 1)) ((Only.refl w2 _).set (.inl rfl) _) (.inr (fun e => hvk2 e.symm))
      case measure => simp [intOf]
    · obtain ⟨A, cc, rfl, hcc, hcm, hE⟩ := hown.elems
      have hE' := hE
      have hx : Enc wr (V4.list A 2 cc) (0 + 1) (partText d i) := by
        refine enc_list wr A [V4.text ⟨d.toArray⟩, V4.int i] [textB d, intB i] cc 0 rfl hE (by simpa using hcc) hcm (by simp) (by omega) fun k x e h1 h2 => ?_
        rcases k with _ | _ | k
        · obtain rfl := Option.some.inj h1
          obtain rfl := Option.some.inj h2
          exact enc_text wr ⟨d.toArray⟩
        · obtain rfl := Option.some.inj h1
          obtain rfl := Option.some.inj h2
          exact enc_int wr i (by omega)
        · cases h1
      have hlen : (partText d i).length ≤ 1000 := by
        have a1 := numB_len10 32 (by omega)
        have a2 := numB_len10 (2 * i) (by omega)
        have a3 := numB_len10 (0 + 1 + 1) (by omega)
        simp only [partText, listB, textB, intB, List.length_cons, List.length_append, List.flatten_cons, List.flatten_nil, List.length_nil, hd]
        omega
      have hcall : Calls Tryd.prog 69 #[.agg #[.int .i64 3, .int .i64 0, .string ⟨#[]⟩, .slice A 2 cc]] wr (EncPost (partText d i) wr) := encode_ok (V4.list A 2 cc) (0 + 1) (partText d i) wr hx (by omega) (by omega)
      have HC := Lib.hid hcall
      have HLEN := Lib.hid hlen
      clear hx hcall hE hE' hown hX hvk hlen
      go_wp2_with fail
      refine HC.out.mono ?_
      rintro e w6 ⟨v6, rfl, hown6, hb6⟩
      have hB6 := hB.trans (hb6.mono hB.size)
      obtain ⟨z, hz1, hz2⟩ := hz
      have hz6 := hz1.below hb6 hz1.lt
      obtain ⟨T, hT⟩ : ∃ T, T = partText d i := ⟨_, rfl⟩
      have hTl : T.length ≤ 1000 := by rw [hT]; exact HLEN.out
      rw [← hT] at hown6
      have HT := Lib.hid hT
      obtain ⟨-, A6, c6, rfl, -, -, hr6⟩ := own_slice hown6
      have HTG := Lib.hid (tagged_any s A6 T c6 w6 (HL.out.below hB6) hr6 (by omega) (by omega))
      clear hown6 hb6 hB hT hr6 hz1 d0 d1 d2 d3
      go_wp2_with fail
      refine HTG.out.mono ?_
      rintro e w7 ⟨rfl, hb7⟩
      have hB7 := hB6.trans (hb7.mono hB6.size)
      have hz7 := hz6.below hb7 hz6.lt
      obtain ⟨H, hH⟩ : ∃ H, H = tagged s.data.toList T := ⟨_, rfl⟩
      have hHl : H.length = 32 := by rw [hH]; exact tagged_length _ _
      rw [← hH]
      have HH := Lib.hid hH
      clear hH hb7 hB6 hz6
      go_wp2_with (refine store_dig rfl _ _ rfl hz7 H hHl rfl rfl hz2 ?_; intro w8 hD8 hO8 hz8)
      refine bodyPost_ret (results_cell_row rfl _ _ (w.heap.size + 1) 23 _ (0, 0) _ rfl hD8 Tryd.underlying23 rfl (dig_info _ hHl)) rfl ?_
      rw [← HT.out, ← HH.out]
      exact ⟨rfl, hB7.trans (hO8.toBelow hB7.size (Nat.le_succ _))⟩
end Go.Proofs.YtibnikokgbfcdaaDoor

/- Walk: sample.parts. -/
namespace Go.Proofs.YtibnikokgbfcdaaDoor
open Go.RowKit Go.Shelf
attribute [local go_sem] Oper.semAt_some

/-- What lies before part i. -/
def sumTo (L : List Int) : Nat → Int
  | 0 => 0
  | i + 1 => sumTo L i + L.getD i 0
/-- The parts before part k. -/
theorem parts_take (m k : Nat) (h : k < m) : (List.finRange m).take (k + 1) = (List.finRange m).take k ++ [⟨k, h⟩] := by
  rw [List.take_add_one]
  simp [h]
theorem parts_take_length (m k : Nat) (h : k ≤ m) : ((List.finRange m).take k).length = k := by simp; omega
set_option maxRecDepth 100000 in
set_option maxHeartbeats 4000000 in
theorem parts1_in (n : Nat) (l bs n₀ : Nat) (A : Option Addr) (c m : Nat) (L : List Int) (hs : ∀ i, i ≤ m → 0 ≤ sumTo L i ∧ sumTo L i ≤ 4096) (hm : m ≤ 64) (ts : TypeId) (J Jx : List (Fin m) → World → Prop)
    (W : World) (hJ : AbidesFrom W.heap.size J)
    (hY : ∀ pre x W1, J pre W1 → pre.length < m → YieldAt Fence.wide (n - 1) Tryd.prog l #[.int .i64 (x.1 : Int), .int .i64 (sumTo L x.1)] W1 fun e W' =>
      (e = .returned (.bool true) ∧ J (pre ++ [x]) W' ∧ Below n₀ W1 W') ∨ (e = .returned (.bool false) ∧ Jx (pre ++ [x]) W'))
    (hD : Blk W bs ts #[.slice A m c]) (hR : Rd W n₀ A m (fun i => .int .i64 (L.getD i 0))) (h0 : J [] W) :
    Calls Tryd.prog 120 #[.func (.yield l) #[] #[], .pointer (some ⟨bs, 0, none⟩)] W fun e W' => (∃ v, e = .returned v) ∧
      ((∃ xs, xs = List.finRange m ∧ J xs W') ∨ (∃ pre, pre <+: List.finRange m ∧ Jx pre W')) := by
  have HY := Lib.hid hY
  have HJ := Lib.hid hJ
  have HSU := Lib.hid hs
  have HR := Lib.hid hR
  have cs : W.cell? ⟨bs, 0, none⟩ = some (.slice A m c) := hD.cell 0
  clear hY hJ hs hR hD
  go_enter Tryd.func120, Tryd.ntmps120
  go_wp2_with fail
  clear cs
  go_loopw [3, 8] (fun b i wr => ∃ k : Nat, k ≤ m ∧ i = .int .i64 k ∧ b = .int .i64 (sumTo L k) ∧ J ((List.finRange m).take k) wr ∧ Below n₀ W wr) (fun _ i _ => m - (intOf i).toNat)
  case atStart => exact ⟨0, by omega, rfl, rfl, h0, Below.refl _ _⟩
  case round =>
    obtain ⟨k, hk, rfl, rfl, hJs, hB⟩ := hrel
    by_cases hlt : k < m
    · obtain ⟨b, off, rfl, _, hc⟩ := (HR.out.below hB).at_ (k := k) hlt
      have s1 := HSU.out k hk
      have s2 := HSU.out (k + 1) hlt
      rw [sumTo] at s2
      obtain ⟨x, hx⟩ : ∃ x, x = L.getD k 0 := ⟨_, rfl⟩
      obtain ⟨s, hse⟩ : ∃ s, s = sumTo L k := ⟨_, rfl⟩
      rw [← hx] at hc s2
      rw [← hse] at s1 s2 ⊢
      have hnx : sumTo L (k + 1) = s + x := by rw [sumTo, hse, hx]
      have HNX := Lib.hid hnx
      have HSE := Lib.hid hse
      obtain ⟨fn, tmps, assign, body, hy, hRo⟩ := HY.out ((List.finRange m).take k) ⟨k, hlt⟩ wr hJs (by rw [parts_take_length _ _ hk]; exact hlt)
      have hy' : (Instr.yield l #[.int .i64 (k : Int), .int .i64 s]).run Tryd.prog wr = .ok (.round l fn tmps assign body) wr := by rw [hse]; exact hy
      clear hy hx hse hnx
      go_upto_region 4 with fail
      refine (wpIn_wide (n := n)).1 ?_
      gi_wp2
      refine ⟨fun h => (by cases h), hRo.mono ?_⟩
      rintro e5 W5 (⟨rfl, hJ5, hk5⟩ | ⟨rfl, hJx5⟩)
      · gi_wp2
        go_wp2_with fail
        go_roundw
        case rel => exact ⟨k + 1, by omega, by go_num, by rw [HNX.out], by rw [parts_take _ _ hlt]; exact hJ5, hB.trans hk5⟩
        case measure => simp [intOf]; omega
      · gi_wp2
        go_wp2_with fail
        refine bodyPost_ret (results_none rfl _ _ _) rfl ?_
        exact ⟨⟨_, rfl⟩, .inr ⟨_, by rw [← parts_take _ _ hlt]; exact List.take_prefix _ _, hJx5⟩⟩
    · obtain rfl : k = m := by omega
      go_wp2
      go_end0
      rw [List.take_of_length_le (by simp)] at hJs
      exact ⟨⟨_, rfl⟩, .inl ⟨_, rfl, hJs⟩⟩
/-- The iterator's contract, under which sample.Strata walks its loop. -/
theorem parts_stops (n : Nat) (bs n₀ : Nat) (A : Option Addr) (c m : Nat) (L : List Int) (hs : ∀ i, i ≤ m → 0 ≤ sumTo L i ∧ sumTo L i ≤ 4096) (hm : m ≤ 64) (ts : TypeId) (w : World) (hn0 : n₀ ≤ w.heap.size)
    (hD : Blk w bs ts #[.slice A m c]) (hR : Rd w n₀ A m (fun i => .int .i64 (L.getD i 0))) :
    SeqStopsK Fence.wide n Tryd.prog 120 #[.pointer (some ⟨bs, 0, none⟩)] (fun x : Fin m => #[Value.int .i64 (x.1 : Int), Value.int .i64 (sumTo L x.1)]) (Below n₀) (fun xs => xs = List.finRange m) (fun pre => pre <+: List.finRange m) m w := fun l J Jx W hW hJ _ hY h0 =>
  callsIn_wide.2 (parts1_in n l bs n₀ A c m L hs hm ts J Jx W hJ hY (hD.below hW hD.lt) (hR.below (hW.mono hn0)) h0)
set_option maxRecDepth 100000 in
set_option maxHeartbeats 1000000 in
theorem parts_any (v : Value) (hv : v.oneCell' = true) (A : Option Addr) (m c : Nat) (e : v = .slice A m c) (w : World) :
    Calls Tryd.prog 103 #[v] w fun e w' => e = .returned (.func (.func 120) #[] #[.pointer (some ⟨w.heap.size, 0, none⟩)]) ∧ w' = w.alloc (.cells #[v] 32) := by
  subst e
  go_enter Tryd.func103, Tryd.ntmps103
  go_wp2
  go_ret
  exact ⟨rfl, rfl⟩
end Go.Proofs.YtibnikokgbfcdaaDoor

/- Plain words on a row of slices that a call owns: what sample.Strata lays. -/
namespace Go.Proofs.YtibnikokgbfcdaaDoor
open Go Go.RowKit

theorem lInfo_all : ∃ i, Tryd.prog.info? 32 = some i ∧ i.zero = some (.slice none 0 0) ∧ i.size = 1 ∧ i.bytes = 24 := by
  have h : (Tryd.prog.info? 32).map (fun i => (i.zero, i.size, i.bytes)) = some (some (.slice none 0 0), 1, 24) := by kernel_rfl
  obtain ⟨i, hi, h0, h1, h2⟩ := info_parts h
  exact ⟨i, hi, h0, h1, h2⟩
noncomputable def lInfo : TypeInfo := lInfo_all.choose
theorem lInfo_eq : Tryd.prog.info? 32 = some lInfo := lInfo_all.choose_spec.1
theorem lInfo_zero : lInfo.zero = some (.slice none 0 0) := lInfo_all.choose_spec.2.1
theorem lInfo_size : lInfo.size = 1 := lInfo_all.choose_spec.2.2.1
theorem lInfo_bytes : lInfo.bytes = 24 := lInfo_all.choose_spec.2.2.2

/-! Numbers of an order lie in range. -/
theorem getD_all {Pr : Int → Prop} (h0 : Pr 0) (l : List Int) (h : ∀ x ∈ l, Pr x) (i : Nat) : Pr (l.getD i 0) := by
  rw [List.getD_eq_getElem?_getD]
  cases hx : l[i]? with
  | none => exact h0
  | some x => exact h x (List.mem_of_getElem? hx)
theorem set_all {Pr : Int → Prop} (l : List Int) (h : ∀ x ∈ l, Pr x) (i : Nat) (y : Int) (hy : Pr y) : ∀ x ∈ l.set i y, Pr x := fun x hx => by
  rcases List.mem_or_eq_of_mem_set hx with h1 | rfl
  · exact h x h1
  · exact hy
theorem shuf_every {Pr : Int → Prop} (h0 : Pr 0) (ks : Nat → Nat) : ∀ i l, (∀ x ∈ l, Pr x) → ∀ x ∈ shuf ks i l, Pr x
  | 0, _, h => h
  | i + 1, l, h => by
    rw [shuf]
    refine shuf_every h0 ks i _ ?_
    rw [swapL]
    exact set_all _ (set_all _ h _ _ (getD_all h0 l h _)) _ _ (getD_all h0 l h _)
theorem orderOf_range (d : List UInt8) (n i : Nat) : 0 ≤ (orderOf d n).getD i 0 ∧ (orderOf d n).getD i 0 ≤ n :=
  getD_all (Pr := fun x => 0 ≤ x ∧ x ≤ (n : Int)) ⟨by omega, by omega⟩ _ (shuf_every ⟨by omega, by omega⟩ _ _ _ (fun x hx => by
    simp only [iota, List.mem_map, List.mem_range] at hx
    obtain ⟨k, hk, rfl⟩ := hx
    omega)) i

/-! Blocks of cells from some place on lie as they lay. -/
def Stay (base : Nat) (W W' : World) : Prop := ∀ g cs t, base ≤ g → Blk W g t cs → Blk W' g t cs
theorem Stay.refl (base : Nat) (W : World) : Stay base W W := fun _ _ _ _ h => h
theorem Stay.trans {base : Nat} {A B C : World} (h : Stay base A B) (k : Stay base B C) : Stay base A C := fun g cs t hg hb => k g cs t hg (h g cs t hg hb)
theorem Stay.of_below {base : Nat} {W W' : World} (h : Below W.heap.size W W') : Stay base W W' := fun _ _ _ _ hb => hb.below h hb.lt
theorem Stay.of_kept {base : Nat} {W W' : World} {row : Option Nat} (hg : W.grownBy W' row) (hr : ∀ r, row = some r → ∃ o : Obj, W.heap[r]? = some o ∧ o.isCells = false) : Stay base W W' := fun g cs t _ hb => by
  refine hb.grown hg fun e => ?_
  obtain ⟨o, ho, hc⟩ := hr g e.symm
  rw [show W.heap[g]? = some (.cells cs t (0, 0)) from hb] at ho
  obtain rfl := Option.some.inj ho
  cases hc
theorem Stay.far {base : Nat} {W : World} {p : Addr} (hp : p.block < base) (u : Value) : Stay base W (W.setCell p u) := fun g cs t hg hb => hb.far (by omega) u
theorem Held.stay {W W' : World} {base : Nat} {A : Option Addr} {k : Nat} {l : List Int} (h : Held W base A k l) (hs : Stay base W W') : Held W' base A k l := by
  rcases h with h | ⟨g, cs, h1, h2, h3, h4, h5⟩
  · exact .inl h
  · exact .inr ⟨g, cs, h1, h2, hs g _ _ h2 h3, h4, h5⟩
theorem own_stay {W W' : World} {base : Nat} {e : TypeId} {size : Nat} {v : Value} {n : Nat} {xs : List Value} (h : W.ownsRow base e size v n xs) (hs : Stay base W W') : W'.ownsRow base e size v n xs := by
  refine ⟨h.1, ?_⟩
  rcases h.2 with h | ⟨g, cap, cur, h1, h2, h3, h4⟩
  · exact .inl h
  · exact .inr ⟨g, cap, cur, h1, h2, hs g _ _ h2 h3, h4⟩
theorem KeepsOthers.of_below {W W' : World} (h : Below W.heap.size W W') : KeepsOthers W W' := ⟨h.size, fun k _ hk _ => (h.block k (Array.getElem?_eq_some_iff.1 hk).1).trans hk⟩

/-! The row. -/
def partTag : List UInt8 := [112, 97, 114, 116]
/-- What a part's order is drawn with. -/
def partDig (d : List UInt8) (i : Nat) : List UInt8 := tagged partTag (partText d i)
/-- The sheets of a part, in the order that is drawn. -/
def partOrd (d : List UInt8) (L : List Int) (i : Nat) : List Int := orderOf (partDig d i) (L.getD i 0).toNat
def strat (d : List UInt8) (L : List Int) (i : Nat) : List Int := (partOrd d L i).map (· + sumTo L i)
def cnt (K : List Int) (i : Nat) : Nat := (K.getD i 0).toNat
def SRow (W : World) (base : Nat) (v : Value) (d : List UInt8) (L K : List Int) (pre : List Nat) : Prop :=
  ∃ xs : List Value, W.ownsRow base 32 1 v pre.length xs ∧ ∀ (j p : Nat), pre[j]? = some p → ∃ A, xs[j]? = some (Value.slice A (cnt K p) (cnt K p)) ∧ Held W base A (cnt K p) (strat d L p)
theorem SRow.nil (W : World) (base : Nat) (d : List UInt8) (L K : List Int) : SRow W base (.slice none 0 0) d L K [] := ⟨[], World.ownsRow_nil _ _ _ _, fun j p h => by cases h⟩
theorem SRow.stay {W W' : World} {base : Nat} {v : Value} {d : List UInt8} {L K : List Int} {pre : List Nat} (h : SRow W base v d L K pre) (hs : Stay base W W') : SRow W' base v d L K pre := by
  obtain ⟨xs, h1, h2⟩ := h
  refine ⟨xs, own_stay h1 hs, fun j p hp => ?_⟩
  obtain ⟨A, h3, h4⟩ := h2 j p hp
  exact ⟨A, h3, h4.stay hs⟩
theorem SRow.weaken {W : World} {base base' : Nat} {v : Value} {d : List UInt8} {L K : List Int} {pre : List Nat} (h : SRow W base v d L K pre) (hb : base' ≤ base) : SRow W base' v d L K pre := by
  obtain ⟨xs, h1, h2⟩ := h
  refine ⟨xs, own_weaken h1 hb, fun j p hp => ?_⟩
  obtain ⟨A, h3, h4⟩ := h2 j p hp
  refine ⟨A, h3, ?_⟩
  rcases h4 with h | ⟨g, cs, a1, a2, a3⟩
  · exact .inl h
  · exact .inr ⟨g, cs, a1, Nat.le_trans hb a2, a3⟩
/-- The row grows; what it leads to lies elsewhere. -/
theorem SRow.push {W W' : World} {base : Nat} {v v' : Value} {d : List UInt8} {L K : List Int} {pre : List Nat} {xs : List Value} {p : Nat} {A : Option Addr}
    (h1 : W.ownsRow base 32 1 v pre.length xs) (h2 : ∀ (j q : Nat), pre[j]? = some q → ∃ A, xs[j]? = some (Value.slice A (cnt K q) (cnt K q)) ∧ Held W base A (cnt K q) (strat d L q))
    (hp : Held W base A (cnt K p) (strat d L p)) (ho : W'.ownsRow base 32 1 v' (pre.length + 1) (xs ++ [Value.slice A (cnt K p) (cnt K p)])) (hg : Grew W W' v v') : SRow W' base v' d L K (pre ++ [p]) := by
  have hne : ∀ g cs, Blk W g 3 cs → some g ≠ v.ownBlock := fun g cs hb e => by
    rcases h1.2 with ⟨rfl, _⟩ | ⟨g', cap, cur, rfl, _, hg', _⟩
    · cases e
    · obtain rfl : g = g' := by simpa [Value.ownBlock] using e
      have := (Blk.inj hb hg').2
      exact absurd this (by decide)
  have hkeep : ∀ A k l, Held W base A k l → Held W' base A k l := fun A k l h => by
    rcases h with h | ⟨g, cs, a1, a2, a3, a4⟩
    · exact .inl h
    · exact .inr ⟨g, cs, a1, a2, a3.grown hg.1 (hne g cs a3), a4⟩
  have hxl : xs.length = pre.length := by have := h1.1; omega
  refine ⟨xs ++ [Value.slice A (cnt K p) (cnt K p)], by rw [List.length_append]; exact ho, fun j q hq => ?_⟩
  by_cases hj : j < pre.length
  · rw [List.getElem?_append_left hj] at hq
    obtain ⟨B, h3, h4⟩ := h2 j q hq
    exact ⟨B, by rw [List.getElem?_append_left (by omega)]; exact h3, hkeep _ _ _ h4⟩
  · rw [List.getElem?_append_right (by omega)] at hq
    obtain ⟨hj0, hq'⟩ : j - pre.length = 0 ∧ p = q := by
      rcases hjk : j - pre.length with _ | k
      · rw [hjk] at hq; exact ⟨rfl, by simpa using hq⟩
      · rw [hjk] at hq; simp at hq
    subst hq'
    exact ⟨A, by rw [List.getElem?_append_right (by omega), hxl, hj0]; rfl, hkeep _ _ _ hp⟩

/-! The numbers of a part, some of them moved on. -/
def mix (o : List Int) (b : Int) (j : Nat) (i : Nat) : Int := if i < j then o.getD i 0 + b else o.getD i 0
def Mixed (W wr : World) (A : Option Addr) (k : Nat) (o : List Int) (b : Int) (j : Nat) : Prop :=
  Below W.heap.size W wr ∧ (k = 0 ∨ ∃ g cs, A = some ⟨g, 0, none⟩ ∧ W.heap.size ≤ g ∧ Blk wr g 3 cs ∧ k ≤ cs.size ∧ ∀ i, i < k → cs[i]? = some (.int .i64 (mix o b j i)))
theorem Mixed.start {W wr : World} {A : Option Addr} {k : Nat} {o : List Int} {b : Int} (hB : Below W.heap.size W wr) (h : Held wr W.heap.size A k o) : Mixed W wr A k o b 0 := by
  refine ⟨hB, ?_⟩
  rcases h with h | ⟨g, cs, h1, h2, h3, h4, h5⟩
  · exact .inl h
  · exact .inr ⟨g, cs, h1, h2, h3, h4, fun i hi => by rw [h5 i hi, mix, if_neg (by omega)]⟩
theorem Mixed.at_ {W wr : World} {A : Option Addr} {k : Nat} {o : List Int} {b : Int} {j : Nat} (h : Mixed W wr A k o b j) (hj : j < k) :
    ∃ g, A = some ⟨g, 0, none⟩ ∧ wr.cell? ⟨g, j, none⟩ = some (.int .i64 (o.getD j 0)) ∧ wr.frozen? ⟨g, j, none⟩ = false ∧ Mixed W (wr.setCell ⟨g, j, none⟩ (.int .i64 (o.getD j 0 + b))) A k o b (j + 1) := by
  rcases h.2 with h0 | ⟨g, cs, h1, h2, h3, h4, h5⟩
  · omega
  · have hj5 := h5 j hj
    rw [mix, if_neg (by omega)] at hj5
    refine ⟨g, h1, (h3.cell j).trans hj5, h3.frozen j, h.1.setCell (p := ⟨g, j, none⟩) h2 _, .inr ⟨g, _, h1, h2, h3.set j _, by simpa using h4, fun i hi => ?_⟩⟩
    rw [Array.getElem?_setIfInBounds]
    by_cases e : j = i
    · subst e
      rw [if_pos rfl, if_pos (by omega), mix, if_pos (by omega)]
    · rw [if_neg e, h5 i hi, mix, mix]
      by_cases hlt : i < j
      · rw [if_pos hlt, if_pos (by omega)]
      · rw [if_neg hlt, if_neg (by omega)]
theorem Mixed.fin {W wr : World} {A : Option Addr} {k : Nat} {o : List Int} {b : Int} {base : Nat} (h : Mixed W wr A k o b k) (hk : k ≤ o.length) (hb : base ≤ W.heap.size) : Held wr base A k (o.map (· + b)) := by
  rcases h.2 with h0 | ⟨g, cs, h1, h2, h3, h4, h5⟩
  · exact .inl h0
  · refine .inr ⟨g, cs, h1, Nat.le_trans hb h2, h3, h4, fun i hi => ?_⟩
    rw [h5 i hi, mix, if_pos hi, List.getD_eq_getElem?_getD, List.getD_eq_getElem?_getD, List.getElem?_map, List.getElem?_eq_getElem (by omega)]
    rfl

section
variable {ops : Array Oper} {rest : List Oper} {o : Oper} {a : Act} {Q : Exit → Act → World → Prop}
theorem src_slice {W : World} {g : Nat} {t : TypeId} (y : Value) (hy : y.oneCell' = true) (h : Blk W g t #[y]) : Src Tryd.prog 1 81 (.slice (some ⟨g, 0, none⟩) 1 1) 1 [y] W := by
  have hR : Rd W W.heap.size (some ⟨g, 0, none⟩) (1 * 1) (fun _ => y) := Rd.of_blk h h.lt fun k hk => by
    rcases k with _ | k <;> first | rfl | omega
  exact src_rd (P := Tryd.prog) W (size := 1) (tx := 81) (n := 1) (c := 1) Tryd.underlying81 hR (by omega) (fun k _ => hy)
theorem app_slice (hgd : o.guard = none) (s x : Operand) (ho : o.op = .call { callee := .builtin .append, args := #[s, x], argTypes := #[81, 81] })
    (base : Nat) {w : World} (v : Value) (n : Nat) (xs : List Value) (hs : a.eval s = v) (hown : w.ownsRow base 32 1 v n xs) (y : Value) (hy : y.oneCell' = true) {g : Nat} {t : TypeId} (hg : Blk w g t #[y])
    (hx : a.eval x = .slice (some ⟨g, 0, none⟩) 1 1) (h47 : n + 1 ≤ 1000000000000) (hbase : base ≤ w.heap.size)
    (h : ∀ v' w', w'.ownsRow base 32 1 v' (n + 1) (xs ++ [y]) → Grew w w' v v' → wpList Tryd.prog ops Q rest (a.put o.dst v') w') : wpList Tryd.prog ops Q (o :: rest) a w :=
  wpList_append_src w hgd s x 81 81 ho base 32 lInfo (.slice none 0 0) 1 24 Tryd.underlying81 lInfo_eq lInfo_zero lInfo_size lInfo_bytes rfl v n xs hs hown _ 1 [y] hx (src_slice y hy hg)
    (by simp only [maxLen]; omega) (by omega) hbase h
/-- A digest is loaded first, in a region that draws, where its block stays. -/
theorem yields_dig {S : World → Prop} (hw : Region.wanted o (yielded ops a.tmps) = true) (x : Operand) (ho : o.op = .load 23 x) (g : Nat) (hx : a.eval x = .pointer (some ⟨g, 0, none⟩)) (d : List UInt8) (hd : d.length = 32) {t : TypeId}
    (hS : ∀ w, S w → Blk w g t (dig d)) : YieldsIf Tryd.prog ops S o (.agg (dig d)) a := by
  have h := yieldsIf_load_mid (P := Tryd.prog) (ops := ops) (S := S) hw 23 x ho g 0 hx (dig d).toList _ (fun w hw j v hv => by
    rw [Nat.zero_add, (hS w hw).cell j]
    simpa using hv) Tryd.underlying23 rfl (by rw [Array.length_toList]; exact dig_info d hd)
  simpa using h
end
end Go.Proofs.YtibnikokgbfcdaaDoor

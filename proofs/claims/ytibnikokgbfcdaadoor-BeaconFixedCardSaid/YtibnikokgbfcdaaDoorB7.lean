/- Walks: the iterator of beacon.bits, beacon.Bits. -/
import Derived.Test.YtibnikokgbfcdaaDoorB5
namespace Go.Proofs.YtibnikokgbfcdaaDoor
open Go Go.RowKit Go.Shelf
attribute [local go_sem] Oper.semAt_some

theorem bitsText_len (d : List UInt8) (k : Nat) (hd : d.length = 32) (hk : k < 4611686018427387000) : (bitsText d k).length ≤ 1000 := by
  have a1 := numB_len10 32 (by omega)
  have a2 := numB_len10 (2 * k) (by omega)
  have a3 := numB_len10 (0 + 1 + 1) (by omega)
  simp only [bitsText, listB, textB, intB, List.length_cons, List.length_append, List.flatten_cons, List.flatten_nil, List.length_nil, hd]
  omega
theorem btag_bits (d : List UInt8) (hd : d.length = 32) (k : Nat) (hk : k < 4611686018427387000) (w : World) (hL : Laid w) (g : Nat) (t : TypeId) (h : Blk w g t #[.iface 23 (.agg (dig d)), .iface 3 (.int .i64 k)]) :
    Calls Tryd.prog 88 #[.string ⟨#[98, 105, 116, 115]⟩, .slice (some ⟨g, 0, none⟩) 2 2] w (Ret (.agg (dig (tagged bitsTag (bitsText d k)))) w) :=
  btagged_any ⟨#[98, 105, 116, 115]⟩ (by decide) [.dig d, .num k] [textB d, intB k] 0 _ 2 2 rfl rfl w hL (Rd.of_blk h h.lt fun j hj => by rcases j with _ | _ | j <;> first | rfl | omega) (by omega) (fun x hx => by
      simp only [List.mem_cons, List.not_mem_nil, or_false] at hx
      rcases hx with rfl | rfl
      · exact hd
      · show k ≤ _; omega) (by omega) (by have := bitsText_len d k hd hk; unfold bitsText at this; omega) (fun i x e hx he => by
      rcases i with _ | _ | i
      · obtain rfl := Option.some.inj hx
        obtain rfl := Option.some.inj he
        exact enc_text w ⟨d.toArray⟩
      · obtain rfl := Option.some.inj hx
        obtain rfl := Option.some.inj he
        exact enc_int w k (by omega)
      · cases hx)
theorem bit_of (B s : Nat) (hB : B < 256) : wrap64 (bits .and .u8 ((B : Int) / 2 ^ s) 1) = ((B / 2 ^ s % 2 : Nat) : Int) := by
  have e0 : ((B : Int) / 2 ^ s) = ((B / 2 ^ s : Nat) : Int) := by simp [Int.natCast_ediv, Int.natCast_pow]
  rw [e0]
  have hc : B / 2 ^ s < 256 := Nat.lt_of_le_of_lt (Nat.div_le_self _ _) hB
  generalize B / 2 ^ s = c at hc
  have h : bits .and .u8 (c : Int) 1 = ((c % 2 : Nat) : Int) := by
    show IntKind.u8.wrap ((BitVec.ofInt 8 (c : Int) &&& BitVec.ofInt 8 1).toNat : Int) = _
    rw [BitVec.toNat_and, BitVec.toNat_ofInt, BitVec.toNat_ofInt]
    have e1 : ((c : Int) % ((2 ^ 8 : Nat) : Int)).toNat = c := by omega
    have e2 : ((1 : Int) % ((2 ^ 8 : Nat) : Int)).toNat = 1 := by decide
    rw [e1, e2, Nat.and_one_is_mod]
    have : c % 2 < 2 := Nat.mod_lt _ (by omega)
    generalize c % 2 = r at this
    rcases r with _ | _ | r
    · decide
    · decide
    · omega
  rw [h]
  unfold wrap64
  omega
set_option maxRecDepth 100000 in
theorem idx_dig (H : List UInt8) (hH : H.length = 32) (k : Nat) (hk : k < 32) (w : World) : (Instr.index 23 (.agg (dig H)) (.int .i64 k)).run Tryd.prog w = .ok (.int .u8 (byteAt H k)) w := by
  have hs : ∀ w, (sizeOf 5).run Tryd.prog w = .ok 1 w := fun _ => by kernel_rfl
  have ha : ∀ w, (isAgg 5).run Tryd.prog w = .ok false w := fun _ => by kernel_rfl
  have z1 : ¬ 32 ≤ k := by omega
  simp [Instr.index, asIntOf, run_underlying Tryd.underlying23, hs, part, ha, z1, dig_get H k (by omega)]
set_option maxRecDepth 100000 in
set_option linter.unusedSimpArgs false in
set_option linter.unusedVariables false in
set_option maxHeartbeats 4000000 in
theorem bits1_in (n : Nat) (lp bd n₀ : Nat) (td : TypeId) (d : List UInt8) (hd : d.length = 32) (J Jx : List Int → World → Prop) (W : World) (hn0 : n₀ ≤ W.heap.size)
    (hJ : BearsM (·.isWalk) W.heap.size none J) (hG : ∀ pre W, J pre W → pre.length < 4096)
    (hY : ∀ pre x W1, J pre W1 → pre.length < 4096 → YieldAt Fence.wide (n - 1) Tryd.prog lp #[.int .i64 x] W1 fun e W' => (e = .returned (.bool true) ∧ J (pre ++ [x]) W' ∧ Kept n₀ bd W1 W') ∨ (e = .returned (.bool false) ∧ Jx (pre ++ [x]) W'))
    (hL : Laid W) (hL0 : 0 < n₀) (hL1 : 1 < n₀) (hD : Blk W bd td (dig d)) (h0 : J [] W) :
    Calls Tryd.prog 116 #[.func (.yield lp) #[] #[], .pointer (some ⟨bd, 0, none⟩)] W fun e W' => (∃ v, e = .returned v) ∧ ((∃ xs, False ∧ J xs W' ∧ True) ∨ (∃ pre, pre = bitsL d pre.length ∧ Jx pre W')) := by
  have HY := Lib.hid hY
  have HJ := Lib.hid hJ
  have HG := Lib.hid hG
  have HL := Lib.hid hL
  have HDD := Lib.hid hD
  clear hY hJ hG hL hD
  go_enter Tryd.func116, Tryd.ntmps116
  go_wp2_with fail
  go_loopw [3] (fun i wr => ∃ k : Nat, i = .int .i64 k ∧ J (bitsL d (256 * k)) wr ∧ Kept n₀ bd W wr) (fun i _ => 17 - (intOf i).toNat)
  case atStart => exact ⟨0, rfl, h0, Kept.refl _ _ _⟩
  case round =>
    obtain ⟨k, rfl, hJs, hB⟩ := hrel
    have hk := HG.out _ _ hJs
    rw [bitsL_length] at hk
    have hDw : Blk wr bd td (dig d) := hB.2 _ HDD.out
    go_wp2_with (refine load_dig rfl _ rfl d hd hDw rfl ?_)
    have hB1 : Below wr.heap.size wr (wr.alloc (.cells #[.iface 23 (.agg (dig d)), .iface 3 (.int .i64 k)] 20)) := (Below.refl _ wr).alloc (Nat.le_refl _) _
    have hB2 := hB.trans (Kept.of_below hB1 (Nat.le_trans hn0 hB.1.size))
    refine (btag_bits d hd k (by omega) _ (HL.out.below' hB2.1 hL0 hL1) _ _ (Blk.new _ _ _)).mono ?_
    rintro e w2 ⟨rfl, hb2⟩
    obtain ⟨H, hH⟩ : ∃ H, H = tagged bitsTag (bitsText d k) := ⟨_, rfl⟩
    have hHl : H.length = 32 := by rw [hH]; exact tagged_length _ _
    rw [← hH]
    have HH := Lib.hid hH
    have hJ2 : J (bitsL d (256 * k)) w2 := HJ.out _ _ _ none hJs (grown_of_below (hB1.trans (hb2.mono hB1.size))) (fun r e => by cases e)
    have hB3 := hB2.trans (Kept.of_below hb2 (Nat.le_trans hn0 hB2.1.size))
    have HJ2 := Lib.hid hJ2
    have HB3 := Lib.hid hB3
    clear hB1 hB2 hb2 hJs hB hDw hH hJ2 hB3
    go_wp2_with fail
    go_loopw [15] (fun i wr => ∃ j : Nat, j ≤ 32 ∧ i = .int .i64 j ∧ J (bitsL d (256 * k + 8 * j)) wr ∧ Kept n₀ bd W wr) (fun i _ => 32 - (intOf i).toNat)
    case atStart => exact ⟨0, by omega, rfl, HJ2.out, HB3.out⟩
    case round =>
      clear HJ2 HB3
      obtain ⟨j, hj, rfl, hJs, hB⟩ := hrel
      by_cases hlt : j < 32
      · have hidx := fun W => idx_dig H hHl j hlt W
        obtain ⟨B, hBy⟩ : ∃ B : Nat, byteAt H j = (B : Int) ∧ B = (H.getD j 0).toNat := ⟨_, rfl, rfl⟩
        rw [hBy.1] at hidx
        have HBY := Lib.hid hBy.2
        have hB256 : B < 256 := by rw [hBy.2]; exact (H.getD j 0).toNat_lt
        have HJS := Lib.hid hJs
        have HBS := Lib.hid hB
        have hd1 : decide ((j : Int) < 32) = true := decide_eq_true (by omega)
        clear hBy hJs hB
        go_wp2_with fail
        try simp only [hd1]
        go_loopw [18] (fun i wr => ∃ s : Nat, s ≤ 8 ∧ i = .int .i64 s ∧ J (bitsL d (256 * k + 8 * j + s)) wr ∧ Kept n₀ bd W wr) (fun i _ => 8 - (intOf i).toNat)
        case atStart => exact ⟨0, by omega, rfl, HJS.out, HBS.out⟩
        case round =>
          clear HJS HBS
          obtain ⟨s, hs, rfl, hJs, hB⟩ := hrel
          by_cases hls : s < 8
          · go_upto_region 8 with fail
            obtain ⟨x, hx⟩ : ∃ x, x = bitAt d (256 * k + 8 * j + s) := ⟨_, rfl⟩
            obtain ⟨fn, tmps, assign, body, hy, hRr⟩ := HY.out _ x wr hJs (by rw [bitsL_length]; have := HG.out _ _ hJs; rw [bitsL_length] at this; exact this)
            have hxb : wrap64 (bits .and .u8 ((B : Int) / 2 ^ s) 1) = x := by
              rw [bit_of B s hB256, hx, bitAt, show (256 * k + 8 * j + s) / 256 = k by omega, show (256 * k + 8 * j + s) % 256 / 8 = j by omega, show (256 * k + 8 * j + s) % 8 = s by omega, ← HH.out, HBY.out]
            have hy' : (Instr.yield lp #[.int .i64 (wrap64 (bits .and .u8 ((B : Int) / 2 ^ s) 1))]).run Tryd.prog wr = .ok (.round lp fn tmps assign body) wr := by rw [hxb]; exact hy
            have HX := Lib.hid hx
            clear hx hxb hy hJs
            refine (wpIn_wide (n := n)).1 ?_
            gi_wp2
            refine ⟨fun h => (by cases h), hRr.mono ?_⟩
            rintro e5 W5 (⟨rfl, hJ5, hk5⟩ | ⟨rfl, hJx5⟩)
            · gi_wp2
              go_wp2_with fail
              go_roundw
              case rel => exact ⟨s + 1, by omega, by go_num, by rw [← Nat.add_assoc, bitsL_succ, ← HX.out]; exact hJ5, hB.trans hk5⟩
              case measure => simp [intOf]; omega
            · gi_wp2
              go_wp2_with fail
              refine bodyPost_ret (results_none rfl _ _ _) rfl ?_
              exact ⟨⟨_, rfl⟩, .inr ⟨_, by rw [HX.out, ← bitsL_succ, bitsL_length], hJx5⟩⟩
          · obtain rfl : s = 8 := by omega
            go_wp2_with fail
            go_roundw
            case rel => exact ⟨j + 1, by omega, by go_num, by rw [show 256 * k + 8 * (j + 1) = 256 * k + 8 * j + 8 by omega]; exact hJs, hB⟩
            case measure => simp [intOf]; omega
      · obtain rfl : j = 32 := by omega
        go_wp2_with fail
        go_roundw
        case rel => exact ⟨k + 1, by go_num, by rw [show 256 * (k + 1) = 256 * k + 8 * 32 by omega]; exact hJs, hB⟩
        case measure => simp [intOf]; omega
theorem bits_seq (n : Nat) (bd n₀ : Nat) (td : TypeId) (d : List UInt8) (hd : d.length = 32) (w : World) (hn0 : n₀ ≤ w.heap.size) (hL : Laid w) (hL0 : 0 < n₀) (hL1 : 1 < n₀) (hD : Blk w bd td (dig d)) :
    SeqM Fence.wide n Tryd.prog 116 #[.pointer (some ⟨bd, 0, none⟩)] (fun x : Int => #[.int .i64 x]) (Kept n₀ bd) none (fun pre => pre.length < 4096) (fun _ => False) (fun pre => pre = bitsL d pre.length) (fun _ _ => True) 4096 w :=
  fun lp J Jx W hW hJ _ hG hY h0 => callsIn_wide.2 (bits1_in n lp bd n₀ td d hd J Jx W (Nat.le_trans hn0 hW.size) hJ hG hY (hL.below hW) hL0 hL1 (hD.below hW hD.lt) h0)
set_option maxRecDepth 100000 in
set_option maxHeartbeats 1000000 in
theorem bits_any (d : List UInt8) (w : World) : Calls Tryd.prog 100 #[.agg (dig d)] w fun e w' => e = .returned (.func (.func 116) #[] #[.pointer (some ⟨w.heap.size, 0, none⟩)]) ∧ w' = w.alloc (.cells (dig d) 23) := by
  go_enter Tryd.func100, Tryd.ntmps100
  go_wp2
  go_ret
  exact ⟨rfl, rfl⟩
/-- What beacon.Bits returns. -/
def BitsPost (d : List UInt8) (n : Nat) (w : World) (e : Ending) (w' : World) : Prop :=
  ∃ A c, e = .returned (.tuple #[.slice A n c, .int .i64 0]) ∧ n ≤ c ∧ c ≤ 9223372036854775807 ∧ Rd w' w'.heap.size A n (fun k => .int .i64 ((bitsL d n).getD k 0)) ∧ Below w.heap.size w w'
def BAx (H : Nat) (x : Int) (a' : Act) : Prop := ∃ u0 u1 u5 u7 u8 u9 u10 u11 u12 u13 u14 u15 u16 u18 u19 u20 u21 u22 u23 u24 u25 u26 : Value, a' = { tmps := #[u0, u1, .pointer (some ⟨H, 0, none⟩), .pointer (some ⟨H + 1, 0, none⟩), .pointer (some ⟨H + 1 + 1, 0, none⟩), u5, .int .i64 x, u7, u8, u9, u10, u11, u12, u13, u14, u15, u16, .int .i64 x, u18, u19, u20, u21, u22, u23, u24, u25, u26], defers := [] }
def BIn (w : World) (B0 n : Nat) (pre : List Int) (W : World) : Prop :=
  Blk W (w.heap.size + 1) 3 #[.int .i64 n] ∧ ∃ v, Blk W (w.heap.size + 2) 32 #[v] ∧ IOwn W B0 v pre ∧ pre.length < n ∧ B0 ≤ W.heap.size
def BOut (w : World) (B0 n : Nat) (pre : List Int) (W : World) : Prop :=
  ∃ v, Blk W (w.heap.size + 2) 32 #[v] ∧ IOwn W B0 v pre ∧ pre.length = n
theorem iown_kept {W W' : World} {base : Nat} {v : Value} {l : List Int} {row : Option Nat} (h : IOwn W base v l) (hg : W.grownBy W' row) (hr : ∀ r, row = some r → ∃ o : Obj, W.heap[r]? = some o ∧ o.isCells = false) : IOwn W' base v l := by
  refine World.ownsRow.kept h hg ?_
  cases e : v.ownBlock with
  | none => exact .inl rfl
  | some g =>
    refine .inr fun e2 => ?_
    obtain ⟨o, ho, hc⟩ := hr g e2.symm
    rcases h.2 with ⟨rfl, -⟩ | ⟨g', cap, cur, rfl, -, hgg, -⟩
    · cases e
    · have : g' = g := by simpa [Value.ownBlock] using e
      subst this
      rw [hgg] at ho
      cases ho
      cases hc
theorem own_keeps {W W' : World} {base : Nat} {v : Value} {l : List Int} (h : IOwn W base v l) (hg : W.grownBy W' v.ownBlock) : KeepsOthers W W' := ⟨hg.size, fun i o ho hc => by
  rw [hg.block i (Array.getElem?_eq_some_iff.1 ho).1 (fun e => ?_)]
  · exact ho
  · rcases h.2 with ⟨rfl, -⟩ | ⟨g', cap, cur, rfl, -, hgg, -⟩
    · cases e
    · obtain rfl : i = g' := by simpa [Value.ownBlock] using e
      rw [hgg] at ho
      cases ho
      cases hc⟩
set_option maxRecDepth 100000 in
set_option linter.unusedSimpArgs false in
set_option linter.unusedVariables false in
set_option maxHeartbeats 4000000 in
theorem bBits_good (d : List UInt8) (hd : d.length = 32) (n : Nat) (h0 : 0 < n) (hn : n ≤ 4096) (w : World) (hL : Laid w) : Calls Tryd.prog 54 #[.agg (dig d), .int .i64 n] w (BitsPost d n w) := by
  have HL := Lib.hid hL
  have g1 : decide ((n : Int) < 0) = false := decide_eq_false (by omega)
  have g2 : decide ((4096 : Int) < (n : Int)) = false := decide_eq_false (by omega)
  have g3 : ((n : Int) == 0) = false := beq_eq_false_iff_ne.2 (by omega)
  clear hL
  refine (callsIn_wide (n := 5)).1 ?_
  refine callsIn_of_wp_marks Tryd.func54 rfl trivial ?_ rfl
  simp only [Tryd.ntmps54, List.size_toArray, List.length_cons, List.length_nil, Nat.reduceAdd, Nat.reduceSub, Array.replicate_succ, Array.replicate_zero, List.push_toArray, List.append_toArray, List.nil_append, List.cons_append]
  refine wpIn_wide.2 ?_
  go_wp2_with (refine load_dig rfl _ rfl d hd (((Blk.new w _ _).alloc _).alloc _) rfl ?_)
  refine (bits_any d _).mono ?_
  rintro e W0 ⟨rfl, hW0⟩
  have c1 : Blk W0 (w.heap.size + 1) 3 #[.int .i64 n] := by rw [hW0]; exact (((Blk.new' _ _ _ (by simp)).alloc _).alloc _)
  have c2 : Blk W0 (w.heap.size + 1 + 1) 32 #[.slice none 0 0] := by rw [hW0]; exact ((Blk.new' _ _ _ (by simp)).alloc _)
  have c3 : Blk W0 (w.heap.size + 3) 23 (dig d) := by rw [hW0]; exact (Blk.new' _ _ _ (by simp))
  have hsz : W0.heap.size = w.heap.size + 4 := by rw [hW0]; simp
  have hB0 : Below w.heap.size w W0 := by
    rw [hW0]
    exact ((((Below.refl _ w).alloc (Nat.le_refl _) _).alloc (by simp) _).alloc (by simp; omega) _).alloc (by simp; omega) _
  simp only [World.size_alloc] at ⊢
  clear hW0
  have hL1 := HL.out.below hB0
  obtain ⟨B0, hB00⟩ : ∃ B0, B0 = W0.heap.size := ⟨_, rfl⟩
  have hI0 : BIn w B0 n [] W0 := ⟨c1, _, c2, IOwn.nil _ _, h0, by omega⟩
  go_wp2_with fail
  refine (wpIn_wide (n := 5)).1 ?_
  refine wpIn_rangeM rfl (by omega) (gf := 116) (lb := #[.pointer (some ⟨w.heap.size + 1 + 1 + 1, 0, none⟩)]) rfl trivial (enters_of Tryd.func116 (by kernel_rfl) rfl)
    (bits_seq 4 (w.heap.size + 3) w.heap.size 23 d hd W0 (by omega) hL1 HL.out.lt0 HL.out.lt1 c3) (fun _ h => by cases h) (fun h k => Kept.trans h k) (fun W ll o o' hl hw1 hw2 hw3 => ⟨belowK_b (w := W0) (by omega) W ll o o' hl hw1 hw2 hw3, fun u hu => (World.putObj_heap_other (by omega)).trans hu⟩) (Below.refl _ _) (fun _ => rfl)
    (fun pre W => BIn w B0 n pre W ∧ Below w.heap.size w W) (fun cc pre W => (cc = .exit 0 ∧ BOut w B0 n pre W) ∧ Below w.heap.size w W) ?hI ?hIx (fun _ _ _ _ h _ _ => h) ?hG ⟨hI0, hB0⟩ (fun x a' _ => BAx w.heap.size x a') ?hAx ?assign ?body ?done ?stop
  case hI =>
    refine BearsM.of_from (OwnFrom.and (Own.from (fun pre X Y row h hg hr => ?_) _) (ownFrom_below (by omega) (by omega)))
    obtain ⟨i1, v, i2, i3, i4, i5⟩ := h
    exact ⟨blk_kept i1 hg hr, v, blk_kept i2 hg hr, iown_kept i3 hg hr, i4, Nat.le_trans i5 hg.size⟩
  case hIx =>
    intro cc
    refine BearsM.of_from (OwnFrom.and (Own.from (fun pre X Y row h hg hr => ?_) _) (ownFrom_below (by omega) (by omega)))
    obtain ⟨e, v, i2, i3, i4⟩ := h
    exact ⟨e, v, blk_kept i2 hg hr, iown_kept i3 hg hr, i4⟩
  case hG =>
    rintro pre W ⟨⟨i1, v, i2, i3, i4, i5⟩, hB⟩
    omega
  case hAx => exact fun x a' => BearsM.pure _ _ _ (fun _ => BAx w.heap.size x a')
  case assign =>
    rintro lp pre x W K hIB hK
    change Code.wpIn _ _ _ _ _ { tmps := Array.foldl _ _ (#[17].zip #[Value.int .i64 x]), defers := _ } W
    simp only [fold1, List.setIfInBounds_toArray, List.set_cons_zero, List.set_cons_succ]
    gi_wp2
    exact hK _ _ ((KeepsOthers.refl _).from _) (Kept.refl _ _ _) hIB ⟨_, _, _, _, _, _, _, _, _, _, _, _, _, _, _, _, _, _, _, _, _, _, rfl⟩
  case body =>
    rintro lp pre x a' W ⟨⟨i1, v, i2, i3, i4, i5⟩, hB⟩ ⟨u0, u1, u5, u7, u8, u9, u10, u11, u12, u13, u14, u15, u16, u18, u19, u20, u21, u22, u23, u24, u25, u26, rfl⟩ hlen
    have e1 : W.cell? ⟨w.heap.size + 1 + 1, 0, none⟩ = some v := i2.cell 0
    have e2 : W.cell? ⟨w.heap.size + 1, 0, none⟩ = some (.int .i64 n) := i1.cell 0
    have hO1 : IOwn (W.alloc (.cells #[.int .i64 x] 3)) B0 v pre := i3.alloc _
    have hvk : some (w.heap.size + 2) ≠ v.ownBlock := fun e => by have := (World.ownsRow.lt i3 _ e.symm).1; omega
    have hlen2 : (pre ++ [x]).length = pre.length + 1 := by simp
    iterate 3 (first | go_values | gi_guarded | gi_step | gi_upon)
    refine wpIn_region_list_of (L := [_, _, _, _, _]) (by kernel_rfl) ?_ ?_
    · intro ho
      obtain ⟨_, _, h⟩ := ho
      exact h
    go_wp2_with (at_builtin; refine app_int rfl _ _ rfl B0 v pre rfl hO1 x (Blk.new _ _ _) rfl (by omega) (by simp only [World.size_alloc]; omega) ?_; intro v2 w2 hown2 hg2; obtain ⟨A2, cc2, rfl, hcc2, hcc3, -⟩ := hown2.shape; have hX2 := (i2.alloc (.cells #[.int .i64 x] 3)).grown hg2.1 hvk; have e3 := hX2.cell 0; have f3 := hX2.frozen 0)
    have hb1 : Below w.heap.size W w2 := ((Below.refl _ W).alloc (by omega) _).trans (hg2.below (by simp; omega) fun k hk => by have := (World.ownsRow.lt i3 _ hk).1; omega)
    have hb2 : Below B0 W w2 := ((Below.refl _ W).alloc i5 _).trans (hg2.below (by simp only [World.size_alloc]; omega) fun k hk => (World.ownsRow.lt i3 _ hk).1)
    have hk1 : KeepsOthers W w2 := (KeepsOthers.of_below ((Below.refl W.heap.size W).alloc (Nat.le_refl _) (.cells #[.int .i64 x] 3))).trans (own_keeps hO1 hg2.1)
    have hvk1 : some (w.heap.size + 1) ≠ v.ownBlock := fun e => by have := (World.ownsRow.lt i3 _ e.symm).1; omega
    have i12 := (i1.alloc (.cells #[.int .i64 x] 3)).grown hg2.1 hvk1
    have j1 := i12.far (p := ⟨w.heap.size + 1 + 1, 0, none⟩) (by show w.heap.size + 1 ≠ w.heap.size + 1 + 1; omega) (.slice A2 (pre.length + 1) cc2)
    have j2 := hX2.set 0 (.slice A2 (pre.length + 1) cc2)
    rw [hlen2] at hown2
    have j3 : IOwn (w2.setCell ⟨w.heap.size + 1 + 1, 0, none⟩ (.slice A2 (pre.length + 1) cc2)) B0 (.slice A2 (pre.length + 1) cc2) (pre ++ [x]) := ownsRow_setCell_below hown2 (show w.heap.size + 1 + 1 < B0 by omega) _
    have j4 : Below w.heap.size w (w2.setCell ⟨w.heap.size + 1 + 1, 0, none⟩ (.slice A2 (pre.length + 1) cc2)) := (hB.trans hb1).setCell (p := ⟨w.heap.size + 1 + 1, 0, none⟩) (by show w.heap.size ≤ w.heap.size + 1 + 1; omega) _
    have j5 := hk1.trans (KeepsOthers.setCell w2 ⟨w.heap.size + 1 + 1, 0, none⟩ (.slice A2 (pre.length + 1) cc2))
    have j6 : B0 ≤ (w2.setCell ⟨w.heap.size + 1 + 1, 0, none⟩ (.slice A2 (pre.length + 1) cc2)).heap.size := by
      have h1 : (w2.setCell ⟨w.heap.size + 1 + 1, 0, none⟩ (.slice A2 (pre.length + 1) cc2)).heap.size = w2.heap.size := by simp [World.setCell]
      have := hb2.size
      omega
    have j7 : Kept w.heap.size (w.heap.size + 3) W (w2.setCell ⟨w.heap.size + 1 + 1, 0, none⟩ (.slice A2 (pre.length + 1) cc2)) :=
      ⟨hb1.setCell (p := ⟨w.heap.size + 1 + 1, 0, none⟩) (by show w.heap.size ≤ w.heap.size + 1 + 1; omega) _, fun u hu => (heap_setCell_other _ _ _ _ (by show w.heap.size + 3 ≠ w.heap.size + 1 + 1; omega)).trans ((hb2.block _ (by omega)).trans hu)⟩
    clear i1 i2 i3 i12 hX2 hown2 hg2 hO1 hb1 hb2 hk1 e3 f3 e1 e2 hB
    generalize w2.setCell ⟨w.heap.size + 1 + 1, 0, none⟩ (.slice A2 (pre.length + 1) cc2) = w3 at j1 j2 j3 j4 j5 j6 j7 ⊢
    have e4 : w3.cell? ⟨w.heap.size + 1 + 1, 0, none⟩ = some (.slice A2 (pre.length + 1) cc2) := j2.cell 0
    have e5 : w3.cell? ⟨w.heap.size + 1, 0, none⟩ = some (.int .i64 n) := j1.cell 0
    obtain ⟨PL, hPL⟩ : ∃ PL, PL = pre.length + 1 := ⟨_, rfl⟩
    rw [← hPL] at e4 j2 j3 ⊢
    have HPL := Lib.hid (show (pre ++ [x]).length = PL by rw [hPL, hlen2])
    have hle : PL ≤ n := by omega
    clear hPL hlen2
    by_cases t1 : PL = n
    · have g4 : ((PL : Int) == (n : Int)) = true := beq_iff_eq.2 (by omega)
      have HT := Lib.hid t1
      clear t1
      gi_wp2
      exact ⟨j5.from _, ⟨rfl, _, j2, j3, by rw [HPL.out]; exact HT.out⟩, j4⟩
    · have g4 : ((PL : Int) == (n : Int)) = false := beq_eq_false_iff_ne.2 (by omega)
      have hlt : PL < n := by omega
      clear t1
      gi_wp2
      exact ⟨j5.from _, j7, ⟨j1, _, j2, j3, by rw [HPL.out]; exact hlt, j6⟩, j4⟩
  case done =>
    rintro D xs W hD h
    exact h.elim
  case stop =>
    rintro D cc pre W hD hpre ⟨⟨rfl, v, i2, i3, i4⟩, hB⟩ hK
    obtain ⟨A2, cc2, rfl, hcc2, hcc3, -⟩ := i3.shape
    rw [i4] at hcc2 hpre i2
    have i3n : IOwn W B0 (.slice A2 n cc2) pre := by
      have h := i3
      rw [i4] at h
      exact h
    have HPRE := Lib.hid hpre
    clear hpre i3
    have e1 : W.cell? ⟨w.heap.size + 1 + 1, 0, none⟩ = some (.slice A2 n cc2) := i2.cell 0
    have f1 : W.frozen? ⟨w.heap.size + 1 + 1, 0, none⟩ = false := i2.frozen 0
    gi_wp2
    go_wp2
    have hK' := (KeepsOthers.setCell W ⟨w.heap.size + 1 + 1, 0, none⟩ (.slice A2 n cc2)).same D _ hK rfl
    refine ⟨by simp, .inl ⟨_, _, rfl, run_takeDeferred hK', ?_⟩⟩
    have hc5 := cell_kept ((i2.set 0 (.slice A2 n cc2)).cell 0) (grownBy_putObj' _ D (.deferred none)) (fun r e => by cases e; exact ⟨_, hK', rfl⟩)
    have hc6 : ((W.setCell ⟨w.heap.size + 1 + 1, 0, none⟩ (.slice A2 n cc2)).putObj D (.deferred none)).cell? ⟨w.heap.size + 1 + 1, 0, none⟩ = some (.slice A2 n cc2) := hc5
    have k3 : IOwn ((W.setCell ⟨w.heap.size + 1 + 1, 0, none⟩ (.slice A2 n cc2)).putObj D (.deferred none)) B0 (.slice A2 n cc2) pre :=
      iown_kept (show IOwn (W.setCell ⟨w.heap.size + 1 + 1, 0, none⟩ (.slice A2 n cc2)) B0 (.slice A2 n cc2) pre from ownsRow_setCell_below i3n (show w.heap.size + 1 + 1 < B0 by omega) _) (grownBy_putObj' _ D _) (fun r e => by cases e; exact ⟨_, hK', rfl⟩)
    have k4 := k3.rd i4
    rw [HPRE.out] at k4
    refine ⟨.tuple #[.slice A2 n cc2, .int .i64 0], ?_, A2, cc2, rfl, hcc2, hcc3, k4, (hB.setCell (p := ⟨w.heap.size + 1 + 1, 0, none⟩) (by show w.heap.size ≤ w.heap.size + 1 + 1; omega) _).trans (belowK_b (w := W0) (by omega) _ D _ _ hD hK' rfl rfl)⟩
    simp [results, Tryd.f54, go_sem, hc6]

set_option maxRecDepth 100000 in
set_option linter.unusedSimpArgs false in
set_option maxHeartbeats 2000000 in
theorem bBits_zero (d : List UInt8) (w : World) : Calls Tryd.prog 54 #[.agg (dig d), .int .i64 0] w (Ret (.tuple #[.slice none 0 0, .int .i64 0]) w) := by
  go_enter Tryd.func54, Tryd.ntmps54
  go_wp2
  refine bodyPost_ret (v := .tuple #[.slice none 0 0, .int .i64 0]) ?_ rfl ⟨rfl, (((Below.refl _ w).alloc (Nat.le_refl _) _).alloc (by simp) _).alloc (by simp; omega) _⟩
  simp [results, Tryd.f54, go_sem]
set_option maxRecDepth 100000 in
set_option linter.unusedSimpArgs false in
set_option maxHeartbeats 2000000 in
theorem bBits_bad (d : List UInt8) (n : Int) (h : n < 0 ∨ 4096 < n) (w : World) : Calls Tryd.prog 54 #[.agg (dig d), .int .i64 n] w (Ret (.tuple #[.slice none 0 0, .int .i64 1]) w) := by
  by_cases t1 : n < 0
  · have g1 : decide (n < 0) = true := decide_eq_true t1
    clear h
    go_enter Tryd.func54, Tryd.ntmps54
    go_wp2_with (refine wpList_skip (by rfl) ?_)
    refine bodyPost_ret (v := .tuple #[.slice none 0 0, .int .i64 1]) ?_ rfl ⟨rfl, (((Below.refl _ w).alloc (Nat.le_refl _) _).alloc (by simp) _).alloc (by simp; omega) _⟩
    simp [results, Tryd.f54, go_sem]
  · have g1 : decide (n < 0) = false := decide_eq_false t1
    have g2 : decide (4096 < n) = true := decide_eq_true (by omega)
    clear h
    go_enter Tryd.func54, Tryd.ntmps54
    go_wp2_with fail
    refine bodyPost_ret (v := .tuple #[.slice none 0 0, .int .i64 1]) ?_ rfl ⟨rfl, (((Below.refl _ w).alloc (Nat.le_refl _) _).alloc (by simp) _).alloc (by simp; omega) _⟩
    simp [results, Tryd.f54, go_sem]
theorem bBits_ok (d : List UInt8) (hd : d.length = 32) (n : Nat) (hn : n ≤ 4096) (w : World) (hL : Laid w) : Calls Tryd.prog 54 #[.agg (dig d), .int .i64 n] w (BitsPost d n w) := by
  rcases Nat.eq_zero_or_pos n with rfl | h
  · refine (bBits_zero d w).mono ?_
    rintro e w' ⟨rfl, hb⟩
    exact ⟨none, 0, rfl, by omega, by omega, Rd.zero, hb⟩
  · exact bBits_good d hd n h hn w hL
end Go.Proofs.YtibnikokgbfcdaaDoor

/- Walks: the iterator of draw.all. -/
import Derived.RangeFuncNested
import Derived.RangeFuncBound
import Derived.RangeFuncCalls
import Derived.RangeFuncLeaves
import Derived.Shelf.Abstract
import Derived.Shelf.RegionOpen
import Derived.OwnWalkIn
import Derived.TacticsInMore
import Derived.LoopNIn
import Derived.LoopIn
import Derived.Deep.Cut
import Derived.Test.YtibnikokgbfcdaaDoorW13
import Derived.Test.YtibnikokgbfcdaaDoorW12
import Derived.Test.YtibnikokgbfcdaaDoorW6
namespace Go.Proofs.YtibnikokgbfcdaaDoor
open Go.RowKit Go.Shelf
attribute [local go_sem] Oper.semAt_some

/-- The number that the first k of some bytes are. -/
def be (l : List UInt8) : Nat → Nat
  | 0 => 0
  | k + 1 => be l k * 256 + (l.getD k 0).toNat
theorem be_lt (l : List UInt8) : ∀ k, be l k < 256 ^ k
  | 0 => by simp [be]
  | k + 1 => by
    have h := be_lt l k
    have h2 := (l.getD k 0).toNat_lt
    rw [be, Nat.pow_succ]
    omega
/-- The text of a word of draw.all. -/
def wordText (d : List UInt8) (no i : Nat) : List UInt8 := listB [textB d, intB no, intB i]
def drawTag : List UInt8 := [100, 114, 97, 119]
def wordOf (d : List UInt8) (no i : Nat) : Nat := be (tagged drawTag (wordText d no i)) 4
theorem wordOf_lt (d : List UInt8) (no i : Nat) : wordOf d no i < 4294967296 := be_lt _ 4
abbrev W32 := { x : Nat // x < 4294967296 }
def wordsOf (d : List UInt8) (no k : Nat) : List W32 := (List.range k).map fun i => ⟨wordOf d no i, wordOf_lt d no i⟩
theorem wordsOf_succ (d : List UInt8) (no k : Nat) : wordsOf d no (k + 1) = wordsOf d no k ++ [⟨wordOf d no k, wordOf_lt d no k⟩] := by simp [wordsOf, List.range_succ]
theorem wordsOf_length (d : List UInt8) (no k : Nat) : (wordsOf d no k).length = k := by simp [wordsOf]
theorem wordsOf_prefix (d : List UInt8) (no k m : Nat) (h : k ≤ m) : wordsOf d no k <+: wordsOf d no m := by
  obtain ⟨j, rfl⟩ : ∃ j, m = k + j := ⟨m - k, by omega⟩
  rw [wordsOf, wordsOf, List.range_add, List.map_append]
  exact List.prefix_append _ _
theorem or_byte_nat (a b : Nat) (h : b < 256) : (a * 256) ||| b = a * 256 + b := by
  have := Nat.two_pow_add_eq_or_of_lt (i := 8) (b := b) h a
  rw [show 2 ^ 8 = 256 from rfl, Nat.mul_comm 256 a] at this
  exact this.symm
theorem or_byte (a b : Nat) (ha : a < 4294967296) (hb : b < 256) : bits .or .i64 ((a * 256 : Nat) : Int) (b : Int) = ((a * 256 + b : Nat) : Int) := by
  show IntKind.i64.wrap ((BitVec.ofInt 64 ((a * 256 : Nat) : Int) ||| BitVec.ofInt 64 (b : Int)).toNat : Int) = _
  rw [BitVec.toNat_or, BitVec.toNat_ofInt, BitVec.toNat_ofInt]
  have e1 : (((a * 256 : Nat) : Int) % ((2 ^ 64 : Nat) : Int)).toNat = a * 256 := by omega
  have e2 : ((b : Int) % ((2 ^ 64 : Nat) : Int)).toNat = b := by omega
  rw [e1, e2, or_byte_nat a b hb, IntKind.wrap_i64]
  omega
theorem numB_len_bound (u : Nat) (h : u < 18446744073709551616) : (numB u).length ≤ 10 := numB_len10 u h
theorem wordText_len (d : List UInt8) (no i : Nat) (hd : d.length = 32) (h1 : no < 4611686018427387000) (h2 : i < 4611686018427387000) : (wordText d no i).length ≤ 1000 := by
  have a1 := numB_len10 32 (by omega)
  have a2 := numB_len10 (2 * no) (by omega)
  have a3 := numB_len10 (2 * i) (by omega)
  have a4 := numB_len10 3 (by omega)
  simp only [wordText, listB, textB, intB, List.length_cons, List.length_append, List.flatten_cons, List.flatten_nil, List.length_nil, hd, Nat.reduceAdd]
  omega

theorem own_shape {w : World} {base : Nat} {v : Value} {n : Nat} {l : List UInt8} (h : w.ownsRow base 5 1 v n (bcells l)) : ∃ A c, v = .slice A l.length c ∧ n = l.length ∧ n ≤ c ∧ c ≤ 9223372036854775807 ∧ RdB w w.heap.size A l := by
  rcases h.2 with ⟨rfl, h0⟩ | ⟨g, cap, cur, rfl, hbg, hg, hnc, hcm, hcs, htake⟩
  · have h1 := h.1
    rw [bcells_len, h0] at h1
    obtain rfl := List.eq_nil_of_length_eq_zero h1
    exact ⟨none, 0, rfl, h0, by omega, by omega, RdB.nil⟩
  · have := RdB.of_own h
    exact ⟨_, cap, by rw [← this.1], this.1, hnc, by simp only [maxLen] at hcm; omega, this.2⟩
theorem Laid.below' {w w' : World} {n₀ : Nat} (h : Laid w) (hb : Below n₀ w w') (h0 : 0 < n₀) (h1 : 1 < n₀) : Laid w' :=
  ⟨fun i hi => (hb.cell (p := ⟨0, i, none⟩) h0).trans (h.start i hi), fun t ht => (hb.cell (p := ⟨1, t, none⟩) h1).trans (h.nums t ht)⟩
theorem grown_of_below {A B : World} (h : Below A.heap.size A B) : A.grownBy B none := ⟨h.os, h.tape, h.output, h.size, fun i hi _ => h.block i hi⟩
set_option maxRecDepth 100000 in
set_option maxHeartbeats 4000000 in
theorem all1_in (n : Nat) (l bd bn n₀ : Nat) (d : List UInt8) (hd : d.length = 32) (no : Nat) (hno : no < 4611686018427387000) (hbd : bd < n₀) (hbn : bn < n₀) (td tn : TypeId) (J Jx : List W32 → World → Prop)
    (W : World) (hn0 : n₀ ≤ W.heap.size) (hJ : AbidesFrom W.heap.size J)
    (hY : ∀ pre x W1, J pre W1 → pre.length < 64 → YieldAt Fence.wide (n - 1) Tryd.prog l #[.int .i64 (x.1 : Int)] W1 fun e W' =>
      (e = .returned (.bool true) ∧ J (pre ++ [x]) W' ∧ Below n₀ W1 W') ∨ (e = .returned (.bool false) ∧ Jx (pre ++ [x]) W'))
    (hL : Laid W) (hL0 : 0 < n₀) (hL1 : 1 < n₀) (hD : Blk W bd td (dig d)) (hN : Blk W bn tn #[.int .i64 no]) (h0 : J [] W) :
    Calls Tryd.prog 108 #[.func (.yield l) #[] #[], .pointer (some ⟨bd, 0, none⟩), .pointer (some ⟨bn, 0, none⟩)] W fun e W' => (∃ v, e = .returned v) ∧
      ((∃ xs, xs = wordsOf d no 64 ∧ J xs W') ∨ (∃ pre, pre <+: wordsOf d no 64 ∧ Jx pre W')) := by
  have HY := Lib.hid hY
  have HJ := Lib.hid hJ
  clear hY hJ
  go_enter Tryd.func108, Tryd.ntmps108
  go_wp2_with fail
  go_loopw [8] (fun i wr => ∃ k : Nat, k ≤ 64 ∧ i = .int .i64 k ∧ J (wordsOf d no k) wr ∧ Below n₀ W wr) (fun i _ => 64 - (intOf i).toNat)
  case atStart => exact ⟨0, by omega, rfl, h0, Below.refl _ _⟩
  case round =>
    obtain ⟨k, hk, rfl, hJs, hB⟩ := hrel
    have hDw := hD.below hB hbd
    have hNw := hN.below hB hbn
    have hcn : wr.cell? ⟨bn, 0, none⟩ = some (.int .i64 no) := hNw.cell 0
    clear hD hN
    by_cases hlt : k < 64
    · go_wp2_with (refine load_dig rfl _ rfl d hd hDw rfl ?_)
      have hX : Blk (wr.alloc (.cells #[.iface 23 (.agg (dig d)), .iface 3 (.int .i64 no), .iface 3 (.int .i64 k)] 20)) wr.heap.size 20 #[.iface 23 (.agg (dig d)), .iface 3 (.int .i64 no), .iface 3 (.int .i64 k)] := Blk.new _ _ _
      have hB1 : Below n₀ W (wr.alloc (.cells #[.iface 23 (.agg (dig d)), .iface 3 (.int .i64 no), .iface 3 (.int .i64 k)] 20)) := hB.alloc (Nat.le_trans hn0 hB.size) _
      have hJ1 : J (wordsOf d no k) (wr.alloc (.cells #[.iface 23 (.agg (dig d)), .iface 3 (.int .i64 no), .iface 3 (.int .i64 k)] 20)) := HJ.out _ _ _ none hJs (World.grownBy_alloc wr _ none) (fun r e => by cases e)
      generalize wr.alloc (.cells #[.iface 23 (.agg (dig d)), .iface 3 (.int .i64 no), .iface 3 (.int .i64 k)] 20) = w1 at hX hB1 hJ1 ⊢
      have hwl := wordText_len d no k hd hno (by omega)
      have HWL := Lib.hid hwl
      have HS := Lib.hid hB1.size
      clear hwl
      have hR : Rd w1 w1.heap.size (some ⟨wr.heap.size, 0, none⟩) 3 (fun j => ([It.dig d, It.num no, It.num k].getD j (.num 0)).iface) := Rd.of_blk hX hX.lt fun j hj => by
        rcases j with _ | _ | _ | j <;> first | rfl | omega
      refine (dtext_any [.dig d, .num no, .num k] _ 3 w1 hR (by simp) (by
        intro x hx
        simp only [List.mem_cons, List.not_mem_nil, or_false] at hx
        rcases hx with rfl | rfl | rfl
        · exact hd
        · show no ≤ _; omega
        · show k ≤ _; omega) (by have := HWL.out; show (wordText d no k).length + 16 ≤ _; omega)).mono ?_
      rintro e2 w2 ⟨v2, rfl, hown2, hb2⟩
      clear hR hX
      have hown2' : w2.ownsRow w1.heap.size 5 1 v2 (wordText d no k).length (bcells (wordText d no k)) := hown2
      clear hown2
      obtain ⟨T, hT⟩ : ∃ T, T = wordText d no k := ⟨_, rfl⟩
      rw [← hT] at hown2'
      have HT := Lib.hid hT
      clear hT
      obtain ⟨A2, c2, rfl, -, hc2, hc3, hr2⟩ := own_shape hown2'
      clear hown2'
      have hT2 : T.length ≤ 1000 := by rw [HT.out]; exact HWL.out
      obtain ⟨m, hm⟩ : ∃ m, m = T.length := ⟨_, rfl⟩
      have hm2 : m ≤ 1000 := by omega
      have hmc : m ≤ c2 := by omega
      have htag := fun (w' : World) (hL' : Laid w') (hr' : RdB w' w'.heap.size A2 T) => tagged_any ⟨#[100, 114, 97, 119]⟩ A2 T c2 w' hL' hr' (Nat.le_trans hT2 (by omega)) (by show 4 ≤ _; omega)
      rw [← hm] at htag ⊢
      have HTG := Lib.hid htag
      have HM := Lib.hid hm
      clear htag hm hT2 hc2
      have hB2 : Below n₀ W w2 := hB1.trans (hb2.mono (Nat.le_trans hn0 HS.out))
      have hJ2 : J (wordsOf d no k) w2 := HJ.out _ _ _ none hJ1 (grown_of_below hb2) (fun r e => by cases e)
      clear hb2 hJ1 hB1
      go_wp2_with fail
      refine (HTG.out w2 (hL.below' hB2 hL0 hL1) hr2).mono ?_
      rintro e3 w3 ⟨rfl, hb3⟩
      have hB3 : Below n₀ W w3 := hB2.trans (hb3.mono (Nat.le_trans hn0 hB2.size))
      have hJ3 : J (wordsOf d no k) w3 := HJ.out _ _ _ none hJ2 (grown_of_below hb3) (fun r e => by cases e)
      clear hb3 hJ2 hB2 hr2
      have hH : ∃ H, H = tagged drawTag T := ⟨_, rfl⟩
      obtain ⟨H, hH⟩ := hH
      have hHl : H.length = 32 := by rw [hH]; exact tagged_length _ _
      have hV : tagged (ByteArray.mk #[100, 114, 97, 119]).data.toList T = H := hH.symm
      rw [hV]
      have HH := Lib.hid hH
      clear hH hV
      go_wp2_with (refine store_dig_new rfl _ _ rfl _ _ _ H hHl rfl rfl rfl ?_)
      have hH4 : Blk (w3.alloc (.cells (dig H) 23)) w3.heap.size 23 (dig H) := Blk.new _ _ _
      have hB4 : Below n₀ W (w3.alloc (.cells (dig H) 23)) := hB3.alloc (Nat.le_trans hn0 hB3.size) _
      have hJ4 : J (wordsOf d no k) (w3.alloc (.cells (dig H) 23)) := HJ.out _ _ _ none hJ3 (World.grownBy_alloc w3 _ none) (fun r e => by cases e)
      generalize w3.alloc (.cells (dig H) 23) = w4 at hH4 hB4 hJ4 ⊢
      clear hB3 hJ3
      have hcell : ∀ j, j < 4 → w4.cell? ⟨w3.heap.size, j, none⟩ = some (.int .u8 (byteAt H j)) := fun j hj => (hH4.cell j).trans (dig_get H j (by omega))
      go_loop [6, 20] (fun a i => ∃ j : Nat, j ≤ 4 ∧ i = .int .i64 j ∧ a = .int .i64 (be H j)) (fun _ i => 4 - (intOf i).toNat)
      case atStart => exact ⟨0, by omega, rfl, rfl⟩
      case round =>
        obtain ⟨j, hj, rfl, rfl⟩ := hrel
        by_cases hjl : j < 4
        · have hc4 := hcell j hjl
          have hbl := be_lt H j
          have hbl2 : be H j < 16777216 := Nat.lt_of_lt_of_le hbl (by rcases j with _ | _ | _ | _ | j <;> first | decide | omega)
          have hor := or_byte (be H j) (H.getD j 0).toNat (by omega) (H.getD j 0).toNat_lt
          have hby : (H.getD j 0).toNat < 256 := (H.getD j 0).toNat_lt
          unfold byteAt at hc4
          have hor' : bits .or .i64 (((be H j : Nat) : Int) * 256) (wrap64 ((H[j]?.getD 0).toNat : Int)) = ((be H (j + 1) : Nat) : Int) := by
            rw [be, ← hor, ← List.getD_eq_getElem?_getD]
            congr 1
            unfold wrap64
            omega
          clear hcell hbl hor
          go_wp2_with fail
          exact ⟨⟨j + 1, by omega, by go_num, rfl⟩, by simp [intOf]; omega⟩
        · obtain rfl : j = 4 := by omega
          obtain ⟨fn, tmps, assign, body, hy, hR⟩ := HY.out (wordsOf d no k) ⟨wordOf d no k, wordOf_lt d no k⟩ w4 hJ4 (by rw [wordsOf_length]; exact hlt)
          have hwo : be H 4 = wordOf d no k := by rw [HH.out, HT.out]; rfl
          have hy' : (Instr.yield l #[.int .i64 ((be H 4 : Nat) : Int)]).run Tryd.prog w4 = .ok (.round l fn tmps assign body) w4 := by rw [hwo]; exact hy
          clear hy hwo
          clear hcell
          go_upto_region 10 with fail
          refine (wpIn_wide (n := n)).1 ?_
          gi_wp2
          refine ⟨fun h => (by cases h), hR.mono ?_⟩
          rintro e5 W5 (⟨rfl, hJ5, hk5⟩ | ⟨rfl, hJx5⟩)
          · gi_wp2
            go_wp2_with fail
            go_roundw
            case rel => exact ⟨k + 1, by omega, by go_num, by rw [wordsOf_succ]; exact hJ5, hB4.trans hk5⟩
            case measure => simp [intOf]; omega
          · gi_wp2
            go_wp2_with fail
            refine bodyPost_ret (results_none rfl _ _ _) rfl ?_
            exact ⟨⟨_, rfl⟩, .inr ⟨_, by rw [← wordsOf_succ]; exact wordsOf_prefix d no (k + 1) 64 (by omega), hJx5⟩⟩
    · obtain rfl : k = 64 := by omega
      go_wp2
      go_end0
      exact ⟨⟨_, rfl⟩, .inl ⟨_, rfl, hJs⟩⟩

/-- The iterator's contract, under which draw.Number walks its loop. -/
theorem all_stops (n : Nat) (bd bn n₀ : Nat) (d : List UInt8) (hd : d.length = 32) (no : Nat) (hno : no < 4611686018427387000) (hbd : bd < n₀) (hbn : bn < n₀) (td tn : TypeId) (w : World) (hn0 : n₀ ≤ w.heap.size)
    (hL : Laid w) (hL0 : 0 < n₀) (hL1 : 1 < n₀) (hD : Blk w bd td (dig d)) (hN : Blk w bn tn #[.int .i64 no]) :
    SeqStopsK Fence.wide n Tryd.prog 108 #[.pointer (some ⟨bd, 0, none⟩), .pointer (some ⟨bn, 0, none⟩)] (fun x : W32 => #[Value.int .i64 (x.1 : Int)]) (Below n₀) (fun xs => xs = wordsOf d no 64) (fun pre => pre <+: wordsOf d no 64) 64 w := fun l J Jx W hW hJ _ hY h0 =>
  callsIn_wide.2 (all1_in n l bd bn n₀ d hd no hno hbd hbn td tn J Jx W (Nat.le_trans hn0 hW.size) hJ hY (hL.below hW) hL0 hL1 (hD.below hW (by omega)) (hN.below hW (by omega)) h0)
set_option maxRecDepth 100000 in
set_option maxHeartbeats 1000000 in
theorem all_any (d : List UInt8) (no : Int) (w : World) :
    Calls Tryd.prog 71 #[.agg (dig d), .int .i64 no] w fun e w' => e = .returned (.func (.func 108) #[] #[.pointer (some ⟨w.heap.size, 0, none⟩), .pointer (some ⟨w.heap.size + 1, 0, none⟩)]) ∧ w' = (w.alloc (.cells (dig d) 23)).alloc (.cells #[.int .i64 no] 3) := by
  go_enter Tryd.func71, Tryd.ntmps71
  go_wp2
  go_ret
  exact ⟨rfl, rfl⟩
end Go.Proofs.YtibnikokgbfcdaaDoor

/- Several texts in one: W14, W15, W16, W17, W18. -/
import Derived.RangeFuncNested
import Derived.RangeFuncBound
import Derived.RangeFuncCalls
import Derived.RangeFuncLeaves
import Derived.Shelf.Abstract
import Derived.Shelf.RegionOpen
import Derived.OwnWalkIn
import Derived.TacticsInMore
import Derived.LoopNIn
import Derived.LoopIn
import Derived.Deep.Cut
import Derived.Test.YtkkcbkfpaoldmaaGreatDoorSeq
import Derived.Test.YtkkcbkfpaoldmaaGreatDoorBase
import Derived.Test.YtkkcbkfpaoldmaaGreatDoorM09
import Derived.RangeFuncOwn
import Derived.Deep.MidRow
import Derived.Test.YtkkcbkfpaoldmaaGreatDoorM05
import Derived.BigQuiet
import Derived.OwnWalk
/- Walks: the iterator of draw.all. -/
namespace Go.Proofs.YtkkcbkfpaoldmaaGreatDoor
open Go.RowKit Go.Shelf
attribute [local go_sem] Oper.semAt_some

/-- The number that the first k of some bytes are. -/
def be (l : List UInt8) : Nat → Nat
  | 0 => 0
  | k + 1 => be l k * 256 + (l.getD k 0).toNat
theorem be_lt (l : List UInt8) : ∀ k, be l k < 256 ^ k
  | 0 => by simp [be]
  | k + 1 => by
    have h := be_lt l k
    have h2 := (l.getD k 0).toNat_lt
    rw [be, Nat.pow_succ]
    omega
/-- The text of a word of draw.all. -/
def wordText (d : List UInt8) (no i : Nat) : List UInt8 := listB [textB d, intB no, intB i]
def drawTag : List UInt8 := [100, 114, 97, 119]
def wordOf (d : List UInt8) (no i : Nat) : Nat := be (tagged drawTag (wordText d no i)) 4
theorem wordOf_lt (d : List UInt8) (no i : Nat) : wordOf d no i < 4294967296 := be_lt _ 4
abbrev W32 := { x : Nat // x < 4294967296 }
def wordsOf (d : List UInt8) (no k : Nat) : List W32 := (List.range k).map fun i => ⟨wordOf d no i, wordOf_lt d no i⟩
theorem wordsOf_succ (d : List UInt8) (no k : Nat) : wordsOf d no (k + 1) = wordsOf d no k ++ [⟨wordOf d no k, wordOf_lt d no k⟩] := by simp [wordsOf, List.range_succ]
theorem wordsOf_length (d : List UInt8) (no k : Nat) : (wordsOf d no k).length = k := by simp [wordsOf]
theorem wordsOf_prefix (d : List UInt8) (no k m : Nat) (h : k ≤ m) : wordsOf d no k <+: wordsOf d no m := by
  obtain ⟨j, rfl⟩ : ∃ j, m = k + j := ⟨m - k, by omega⟩
  rw [wordsOf, wordsOf, List.range_add, List.map_append]
  exact List.prefix_append _ _
theorem or_byte_nat (a b : Nat) (h : b < 256) : (a * 256) ||| b = a * 256 + b := by
  have := Nat.two_pow_add_eq_or_of_lt (i := 8) (b := b) h a
  rw [show 2 ^ 8 = 256 from rfl, Nat.mul_comm 256 a] at this
  exact this.symm
theorem or_byte (a b : Nat) (ha : a < 4294967296) (hb : b < 256) : bits .or .i64 ((a * 256 : Nat) : Int) (b : Int) = ((a * 256 + b : Nat) : Int) := by
  show IntKind.i64.wrap ((BitVec.ofInt 64 ((a * 256 : Nat) : Int) ||| BitVec.ofInt 64 (b : Int)).toNat : Int) = _
  rw [BitVec.toNat_or, BitVec.toNat_ofInt, BitVec.toNat_ofInt]
  have e1 : (((a * 256 : Nat) : Int) % ((2 ^ 64 : Nat) : Int)).toNat = a * 256 := by omega
  have e2 : ((b : Int) % ((2 ^ 64 : Nat) : Int)).toNat = b := by omega
  rw [e1, e2, or_byte_nat a b hb, IntKind.wrap_i64]
  omega
theorem numB_len_bound (u : Nat) (h : u < 18446744073709551616) : (numB u).length ≤ 10 := numB_len10 u h
theorem wordText_len (d : List UInt8) (no i : Nat) (hd : d.length = 32) (h1 : no < 4611686018427387000) (h2 : i < 4611686018427387000) : (wordText d no i).length ≤ 1000 := by
  have a1 := numB_len10 32 (by omega)
  have a2 := numB_len10 (2 * no) (by omega)
  have a3 := numB_len10 (2 * i) (by omega)
  have a4 := numB_len10 3 (by omega)
  simp only [wordText, listB, textB, intB, List.length_cons, List.length_append, List.flatten_cons, List.flatten_nil, List.length_nil, hd, Nat.reduceAdd]
  omega

theorem own_shape {w : World} {base : Nat} {v : Value} {n : Nat} {l : List UInt8} (h : w.ownsRow base 5 1 v n (bcells l)) : ∃ A c, v = .slice A l.length c ∧ n = l.length ∧ n ≤ c ∧ c ≤ 9223372036854775807 ∧ RdB w w.heap.size A l := by
  rcases h.2 with ⟨rfl, h0⟩ | ⟨g, cap, cur, rfl, hbg, hg, hnc, hcm, hcs, htake⟩
  · have h1 := h.1
    rw [bcells_len, h0] at h1
    obtain rfl := List.eq_nil_of_length_eq_zero h1
    exact ⟨none, 0, rfl, h0, by omega, by omega, RdB.nil⟩
  · have := RdB.of_own h
    exact ⟨_, cap, by rw [← this.1], this.1, hnc, by simp only [maxLen] at hcm; omega, this.2⟩
theorem Laid.below' {w w' : World} {n₀ : Nat} (h : Laid w) (hb : Below n₀ w w') (h0 : 0 < n₀) (h1 : 1 < n₀) : Laid w' :=
  ⟨fun i hi => (hb.cell (p := ⟨0, i, none⟩) h0).trans (h.start i hi), fun t ht => (hb.cell (p := ⟨1, t, none⟩) h1).trans (h.nums t ht)⟩
theorem grown_of_below {A B : World} (h : Below A.heap.size A B) : A.grownBy B none := ⟨h.os, h.tape, h.output, h.size, fun i hi _ => h.block i hi⟩
set_option maxRecDepth 100000 in
set_option maxHeartbeats 4000000 in
theorem all1_in (n : Nat) (l bd bn n₀ : Nat) (d : List UInt8) (hd : d.length = 32) (no : Nat) (hno : no < 4611686018427387000) (hbd : bd < n₀) (hbn : bn < n₀) (td tn : TypeId) (J Jx : List W32 → World → Prop)
    (W : World) (hn0 : n₀ ≤ W.heap.size) (hJ : AbidesFrom W.heap.size J)
    (hY : ∀ pre x W1, J pre W1 → pre.length < 64 → YieldAt Fence.wide (n - 1) Tryz.prog l #[.int .i64 (x.1 : Int)] W1 fun e W' =>
      (e = .returned (.bool true) ∧ J (pre ++ [x]) W' ∧ Below n₀ W1 W') ∨ (e = .returned (.bool false) ∧ Jx (pre ++ [x]) W'))
    (hL : Laid W) (hL0 : 0 < n₀) (hL1 : 1 < n₀) (hD : Blk W bd td (dig d)) (hN : Blk W bn tn #[.int .i64 no]) (h0 : J [] W) :
    Calls Tryz.prog 123 #[.func (.yield l) #[] #[], .pointer (some ⟨bd, 0, none⟩), .pointer (some ⟨bn, 0, none⟩)] W fun e W' => (∃ v, e = .returned v) ∧
      ((∃ xs, xs = wordsOf d no 64 ∧ J xs W') ∨ (∃ pre, pre <+: wordsOf d no 64 ∧ Jx pre W')) := by
  have HY := Lib.hid hY
  have HJ := Lib.hid hJ
  clear hY hJ
  go_enter Tryz.func123, Tryz.ntmps123
  go_wp2_with fail
  go_loopw [8] (fun i wr => ∃ k : Nat, k ≤ 64 ∧ i = .int .i64 k ∧ J (wordsOf d no k) wr ∧ Below n₀ W wr) (fun i _ => 64 - (intOf i).toNat)
  case atStart => exact ⟨0, by omega, rfl, h0, Below.refl _ _⟩
  case round =>
    obtain ⟨k, hk, rfl, hJs, hB⟩ := hrel
    have hDw := hD.below hB hbd
    have hNw := hN.below hB hbn
    have hcn : wr.cell? ⟨bn, 0, none⟩ = some (.int .i64 no) := hNw.cell 0
    clear hD hN
    by_cases hlt : k < 64
    · go_wp2_with (refine load_dig rfl _ rfl d hd hDw rfl ?_)
      have hX : Blk (wr.alloc (.cells #[.iface 31 (.agg (dig d)), .iface 3 (.int .i64 no), .iface 3 (.int .i64 k)] 20)) wr.heap.size 20 #[.iface 31 (.agg (dig d)), .iface 3 (.int .i64 no), .iface 3 (.int .i64 k)] := Blk.new _ _ _
      have hB1 : Below n₀ W (wr.alloc (.cells #[.iface 31 (.agg (dig d)), .iface 3 (.int .i64 no), .iface 3 (.int .i64 k)] 20)) := hB.alloc (Nat.le_trans hn0 hB.size) _
      have hJ1 : J (wordsOf d no k) (wr.alloc (.cells #[.iface 31 (.agg (dig d)), .iface 3 (.int .i64 no), .iface 3 (.int .i64 k)] 20)) := HJ.out _ _ _ none hJs (World.grownBy_alloc wr _ none) (fun r e => by cases e)
      generalize wr.alloc (.cells #[.iface 31 (.agg (dig d)), .iface 3 (.int .i64 no), .iface 3 (.int .i64 k)] 20) = w1 at hX hB1 hJ1 ⊢
      have hwl := wordText_len d no k hd hno (by omega)
      have HWL := Lib.hid hwl
      have HS := Lib.hid hB1.size
      clear hwl
      have hR : Rd w1 w1.heap.size (some ⟨wr.heap.size, 0, none⟩) 3 (fun j => ([It.dig d, It.num no, It.num k].getD j (.num 0)).iface) := Rd.of_blk hX hX.lt fun j hj => by
        rcases j with _ | _ | _ | j <;> first | rfl | omega
      refine (dtext_any [.dig d, .num no, .num k] _ 3 w1 hR (by simp) (by
        intro x hx
        simp only [List.mem_cons, List.not_mem_nil, or_false] at hx
        rcases hx with rfl | rfl | rfl
        · exact hd
        · show no ≤ _; omega
        · show k ≤ _; omega) (by have := HWL.out; show (wordText d no k).length + 16 ≤ _; omega)).mono ?_
      rintro e2 w2 ⟨v2, rfl, hown2, hb2⟩
      clear hR hX
      have hown2' : w2.ownsRow w1.heap.size 5 1 v2 (wordText d no k).length (bcells (wordText d no k)) := hown2
      clear hown2
      obtain ⟨T, hT⟩ : ∃ T, T = wordText d no k := ⟨_, rfl⟩
      rw [← hT] at hown2'
      have HT := Lib.hid hT
      clear hT
      obtain ⟨A2, c2, rfl, -, hc2, hc3, hr2⟩ := own_shape hown2'
      clear hown2'
      have hT2 : T.length ≤ 1000 := by rw [HT.out]; exact HWL.out
      obtain ⟨m, hm⟩ : ∃ m, m = T.length := ⟨_, rfl⟩
      have hm2 : m ≤ 1000 := by omega
      have hmc : m ≤ c2 := by omega
      have htag := fun (w' : World) (hL' : Laid w') (hr' : RdB w' w'.heap.size A2 T) => tagged_any ⟨#[100, 114, 97, 119]⟩ A2 T c2 w' hL' hr' (Nat.le_trans hT2 (by omega)) (by show 4 ≤ _; omega)
      rw [← hm] at htag ⊢
      have HTG := Lib.hid htag
      have HM := Lib.hid hm
      clear htag hm hT2 hc2
      have hB2 : Below n₀ W w2 := hB1.trans (hb2.mono (Nat.le_trans hn0 HS.out))
      have hJ2 : J (wordsOf d no k) w2 := HJ.out _ _ _ none hJ1 (grown_of_below hb2) (fun r e => by cases e)
      clear hb2 hJ1 hB1
      go_wp2_with fail
      refine (HTG.out w2 (hL.below' hB2 hL0 hL1) hr2).mono ?_
      rintro e3 w3 ⟨rfl, hb3⟩
      have hB3 : Below n₀ W w3 := hB2.trans (hb3.mono (Nat.le_trans hn0 hB2.size))
      have hJ3 : J (wordsOf d no k) w3 := HJ.out _ _ _ none hJ2 (grown_of_below hb3) (fun r e => by cases e)
      clear hb3 hJ2 hB2 hr2
      have hH : ∃ H, H = tagged drawTag T := ⟨_, rfl⟩
      obtain ⟨H, hH⟩ := hH
      have hHl : H.length = 32 := by rw [hH]; exact tagged_length _ _
      have hV : tagged (ByteArray.mk #[100, 114, 97, 119]).data.toList T = H := hH.symm
      rw [hV]
      have HH := Lib.hid hH
      clear hH hV
      go_wp2_with (refine store_dig_new rfl _ _ rfl _ _ _ H hHl rfl rfl rfl ?_)
      have hH4 : Blk (w3.alloc (.cells (dig H) 31)) w3.heap.size 31 (dig H) := Blk.new _ _ _
      have hB4 : Below n₀ W (w3.alloc (.cells (dig H) 31)) := hB3.alloc (Nat.le_trans hn0 hB3.size) _
      have hJ4 : J (wordsOf d no k) (w3.alloc (.cells (dig H) 31)) := HJ.out _ _ _ none hJ3 (World.grownBy_alloc w3 _ none) (fun r e => by cases e)
      generalize w3.alloc (.cells (dig H) 31) = w4 at hH4 hB4 hJ4 ⊢
      clear hB3 hJ3
      have hcell : ∀ j, j < 4 → w4.cell? ⟨w3.heap.size, j, none⟩ = some (.int .u8 (byteAt H j)) := fun j hj => (hH4.cell j).trans (dig_get H j (by omega))
      go_loop [6, 20] (fun a i => ∃ j : Nat, j ≤ 4 ∧ i = .int .i64 j ∧ a = .int .i64 (be H j)) (fun _ i => 4 - (intOf i).toNat)
      case atStart => exact ⟨0, by omega, rfl, rfl⟩
      case round =>
        obtain ⟨j, hj, rfl, rfl⟩ := hrel
        by_cases hjl : j < 4
        · have hc4 := hcell j hjl
          have hbl := be_lt H j
          have hbl2 : be H j < 16777216 := Nat.lt_of_lt_of_le hbl (by rcases j with _ | _ | _ | _ | j <;> first | decide | omega)
          have hor := or_byte (be H j) (H.getD j 0).toNat (by omega) (H.getD j 0).toNat_lt
          have hby : (H.getD j 0).toNat < 256 := (H.getD j 0).toNat_lt
          unfold byteAt at hc4
          have hor' : bits .or .i64 (((be H j : Nat) : Int) * 256) (wrap64 ((H[j]?.getD 0).toNat : Int)) = ((be H (j + 1) : Nat) : Int) := by
            rw [be, ← hor, ← List.getD_eq_getElem?_getD]
            congr 1
            unfold wrap64
            omega
          clear hcell hbl hor
          go_wp2_with fail
          exact ⟨⟨j + 1, by omega, by go_num, rfl⟩, by simp [intOf]; omega⟩
        · obtain rfl : j = 4 := by omega
          obtain ⟨fn, tmps, assign, body, hy, hR⟩ := HY.out (wordsOf d no k) ⟨wordOf d no k, wordOf_lt d no k⟩ w4 hJ4 (by rw [wordsOf_length]; exact hlt)
          have hwo : be H 4 = wordOf d no k := by rw [HH.out, HT.out]; rfl
          have hy' : (Instr.yield l #[.int .i64 ((be H 4 : Nat) : Int)]).run Tryz.prog w4 = .ok (.round l fn tmps assign body) w4 := by rw [hwo]; exact hy
          clear hy hwo
          clear hcell
          go_upto_region 10 with fail
          refine (wpIn_wide (n := n)).1 ?_
          gi_wp2
          refine ⟨fun h => (by cases h), hR.mono ?_⟩
          rintro e5 W5 (⟨rfl, hJ5, hk5⟩ | ⟨rfl, hJx5⟩)
          · gi_wp2
            go_wp2_with fail
            go_roundw
            case rel => exact ⟨k + 1, by omega, by go_num, by rw [wordsOf_succ]; exact hJ5, hB4.trans hk5⟩
            case measure => simp [intOf]; omega
          · gi_wp2
            go_wp2_with fail
            refine bodyPost_ret (results_none rfl _ _ _) rfl ?_
            exact ⟨⟨_, rfl⟩, .inr ⟨_, by rw [← wordsOf_succ]; exact wordsOf_prefix d no (k + 1) 64 (by omega), hJx5⟩⟩
    · obtain rfl : k = 64 := by omega
      go_wp2
      go_end0
      exact ⟨⟨_, rfl⟩, .inl ⟨_, rfl, hJs⟩⟩

/-- The iterator's contract, under which draw.Number walks its loop. -/
theorem all_stops (n : Nat) (bd bn n₀ : Nat) (d : List UInt8) (hd : d.length = 32) (no : Nat) (hno : no < 4611686018427387000) (hbd : bd < n₀) (hbn : bn < n₀) (td tn : TypeId) (w : World) (hn0 : n₀ ≤ w.heap.size)
    (hL : Laid w) (hL0 : 0 < n₀) (hL1 : 1 < n₀) (hD : Blk w bd td (dig d)) (hN : Blk w bn tn #[.int .i64 no]) :
    SeqStopsK Fence.wide n Tryz.prog 123 #[.pointer (some ⟨bd, 0, none⟩), .pointer (some ⟨bn, 0, none⟩)] (fun x : W32 => #[Value.int .i64 (x.1 : Int)]) (Below n₀) (fun xs => xs = wordsOf d no 64) (fun pre => pre <+: wordsOf d no 64) 64 w := fun l J Jx W hW hJ _ hY h0 =>
  callsIn_wide.2 (all1_in n l bd bn n₀ d hd no hno hbd hbn td tn J Jx W (Nat.le_trans hn0 hW.size) hJ hY (hL.below hW) hL0 hL1 (hD.below hW (by omega)) (hN.below hW (by omega)) h0)
set_option maxRecDepth 100000 in
set_option maxHeartbeats 1000000 in
theorem all_any (d : List UInt8) (no : Int) (w : World) :
    Calls Tryz.prog 101 #[.agg (dig d), .int .i64 no] w fun e w' => e = .returned (.func (.func 123) #[] #[.pointer (some ⟨w.heap.size, 0, none⟩), .pointer (some ⟨w.heap.size + 1, 0, none⟩)]) ∧ w' = (w.alloc (.cells (dig d) 31)).alloc (.cells #[.int .i64 no] 3) := by
  go_enter Tryz.func101, Tryz.ntmps101
  go_wp2
  go_ret
  exact ⟨rfl, rfl⟩
end Go.Proofs.YtkkcbkfpaoldmaaGreatDoor

/- Walk: draw.Number. -/
namespace Go.Proofs.YtkkcbkfpaoldmaaGreatDoor
open Go.RowKit Go.Shelf
attribute [local go_sem] Oper.semAt_some

/-- What the first of some words that is taken gives. -/
def firstOf (n : Int) : List W32 → Int
  | [] => 0
  | x :: l => if (takeOf (x.1 : Int) n).2.1 then (takeOf (x.1 : Int) n).1 else firstOf n l
theorem firstOf_none (n : Int) : ∀ l : List W32, (∀ x ∈ l, (takeOf (x.1 : Int) n).2.1 = false) → firstOf n l = 0
  | [], _ => rfl
  | x :: l, h => by rw [firstOf, if_neg (by rw [h x (by simp)]; decide)]; exact firstOf_none n l fun y hy => h y (by simp [hy])
theorem firstOf_at (n : Int) (x : W32) (hx : (takeOf (x.1 : Int) n).2.1 = true) (r : List W32) : ∀ l : List W32, (∀ y ∈ l, (takeOf (y.1 : Int) n).2.1 = false) → firstOf n (l ++ x :: r) = (takeOf (x.1 : Int) n).1
  | [], _ => by rw [List.nil_append, firstOf, if_pos hx]
  | y :: l, h => by rw [List.cons_append, firstOf, if_neg (by rw [h y (by simp)]; decide)]; exact firstOf_at n x hx r l fun z hz => h z (by simp [hz])
/-- What draw.Number returns. -/
def numberOf (d : List UInt8) (no n : Int) : Int × Int := if no < 0 ∨ 1099511627776 < no ∨ n < 1 ∨ 4096 < n then (0, 1) else (firstOf n (wordsOf d no.toNat 64), 0)
def numV (r : Int × Int) : Value := .tuple #[.int .i64 r.1, .int .i64 r.2]

theorem two_set (W : World) (b0 b1 : Nat) (h : b0 ≠ b1) {u0 u1 : Value} (h0 : W.cell? ⟨b0, 0, none⟩ = some u0) (h1 : W.cell? ⟨b1, 0, none⟩ = some u1) (v0 v1 : Value) :
    ((W.setCell ⟨b0, 0, none⟩ v0).setCell ⟨b1, 0, none⟩ v1).cell? ⟨b0, 0, none⟩ = some v0 ∧ ((W.setCell ⟨b0, 0, none⟩ v0).setCell ⟨b1, 0, none⟩ v1).cell? ⟨b1, 0, none⟩ = some v1 := by
  have k1 : (W.setCell ⟨b0, 0, none⟩ v0).cell? ⟨b1, 0, none⟩ = some u1 := (World.cell?_setCell_other _ _ _ _ (fun e => h (Addr.mk.inj e).1)).trans h1
  exact ⟨(World.cell?_setCell_other _ _ _ _ (fun e => h (Addr.mk.inj e).1.symm)).trans (World.cell?_setCell_same' _ _ _ (by rw [h0]; rfl)), World.cell?_setCell_same' _ _ _ (by rw [k1]; rfl)⟩
set_option maxRecDepth 100000 in
set_option maxHeartbeats 4000000 in
theorem number_good (d : List UInt8) (hd : d.length = 32) (no n : Nat) (hno : no ≤ 1099511627776) (hn0 : 1 ≤ n) (hn1 : n ≤ 4096) (w : World) (hL : Laid w) :
    Calls Tryz.prog 82 #[.agg (dig d), .int .i64 no, .int .i64 n] w (Ret (numV (firstOf n (wordsOf d no 64), 0)) w) := by
  refine (callsIn_wide (n := 5)).1 ?_
  refine callsIn_of_wp_marks Tryz.func82 rfl trivial ?_ rfl
  simp only [Tryz.ntmps82, List.size_toArray, List.length_cons, List.length_nil, Nat.reduceAdd, Nat.reduceSub, Array.replicate_succ, Array.replicate_zero, List.push_toArray, List.append_toArray, List.nil_append, List.cons_append]
  refine wpIn_wide.2 ?_
  have hX0 : Blk ((((w.alloc (.cells (dig d) 31)).alloc (.cells #[.int .i64 n] 3)).alloc (.cells #[.int .i64 0] 3)).alloc (.cells #[.int .i64 0] 32)) w.heap.size 31 (dig d) := (((Blk.new w _ _).alloc _).alloc _).alloc _
  have HX0 := Lib.hid hX0
  have HL := Lib.hid hL
  clear hX0 hL
  go_wp2_with (refine load_dig rfl _ rfl d hd HX0.out rfl ?_)
  refine (all_any d no _).mono ?_
  rintro e W0 ⟨rfl, hW0⟩
  have hY : ∃ hs, hs = w.heap.size := ⟨_, rfl⟩
  have c1 : Blk W0 (w.heap.size + 1) 3 #[.int .i64 n] := by rw [hW0]; exact (((((Blk.new' _ _ _ (by simp)).alloc _).alloc _).alloc _).alloc _)
  have c2 : Blk W0 (w.heap.size + 1 + 1) 3 #[.int .i64 0] := by rw [hW0]; exact ((((Blk.new' _ _ _ (by simp)).alloc _).alloc _).alloc _)
  have c3 : Blk W0 (w.heap.size + 1 + 1 + 1) 32 #[.int .i64 0] := by rw [hW0]; exact (((Blk.new' _ _ _ (by simp)).alloc _).alloc _)
  have c4 : Blk W0 (w.heap.size + 4) 31 (dig d) := by rw [hW0]; exact ((Blk.new' _ _ _ (by simp)).alloc _)
  have c5 : Blk W0 (w.heap.size + 5) 3 #[.int .i64 no] := by rw [hW0]; exact (Blk.new' _ _ _ (by simp))
  have hsz : W0.heap.size = w.heap.size + 6 := by rw [hW0]; simp
  have hB0 : Below w.heap.size w W0 := by
    rw [hW0]
    exact ((((((Below.refl _ w).alloc (Nat.le_refl _) _).alloc (by simp) _).alloc (by simp; omega) _).alloc (by simp; omega) _).alloc (by simp; omega) _).alloc (by simp; omega) _
  simp only [World.size_alloc] at ⊢
  clear hW0 hY HX0
  go_wp2_with fail
  have k2 : W0.cell? ⟨w.heap.size + 1 + 1, 0, none⟩ = some (.int .i64 0) := c2.cell 0
  have k3 : W0.cell? ⟨w.heap.size + 1 + 1 + 1, 0, none⟩ = some (.int .i64 0) := c3.cell 0
  have f2 := c2.frozen 0
  have f3 := c3.frozen 0
  have hL1 := HL.out.below hB0
  refine (wpIn_wide (n := 5)).1 ?_
  refine wpIn_rangeFunc_ownF rfl (by omega) (gf := 123) (lb := #[.pointer (some ⟨w.heap.size + 4, 0, none⟩), .pointer (some ⟨w.heap.size + 5, 0, none⟩)]) rfl trivial (enters_of Tryz.func123 (by kernel_rfl) rfl)
    (all_stops 4 (w.heap.size + 4) (w.heap.size + 5) W0.heap.size d hd no (by omega) (by omega) (by omega) _ _ W0 (Nat.le_refl _) hL1 hL1.lt0 hL1.lt1 c4 c5) belowK_t (belowK_b (Nat.le_refl _)) (Below.refl _ _) (fun _ => rfl)
    (fun pre W => ((∀ y ∈ pre, (takeOf (y.1 : Int) n).2.1 = false) ∧ W.cell? ⟨w.heap.size + 1, 0, none⟩ = some (.int .i64 n) ∧ W.cell? ⟨w.heap.size + 1 + 1, 0, none⟩ = some (.int .i64 0) ∧ W.frozen? ⟨w.heap.size + 1 + 1, 0, none⟩ = false ∧ W.cell? ⟨w.heap.size + 1 + 1 + 1, 0, none⟩ = some (.int .i64 0) ∧ W.frozen? ⟨w.heap.size + 1 + 1 + 1, 0, none⟩ = false) ∧ Below w.heap.size w W)
    (fun c pre W => (c = .ret ∧ (∃ (x : W32) (q : List W32), pre = q ++ [x] ∧ (∀ y ∈ q, (takeOf (y.1 : Int) n).2.1 = false) ∧ (takeOf (x.1 : Int) n).2.1 = true ∧ W.cell? ⟨w.heap.size + 1 + 1, 0, none⟩ = some (.int .i64 (takeOf (x.1 : Int) n).1)) ∧ W.cell? ⟨w.heap.size + 1 + 1 + 1, 0, none⟩ = some (.int .i64 0)) ∧ Below w.heap.size w W)
    (OwnFrom.and (Own.from (fun s A B row hs hg hr => ⟨hs.1, cell_kept hs.2.1 hg hr, cell_kept hs.2.2.1 hg hr, (frozen_kept hs.2.2.1 hg hr).trans hs.2.2.2.1, cell_kept hs.2.2.2.2.1 hg hr, (frozen_kept hs.2.2.2.2.1 hg hr).trans hs.2.2.2.2.2⟩) _) (ownFrom_below (Nat.le_refl _) (by omega)))
    (fun c => OwnFrom.and (Own.from (fun s A B row hs hg hr => by
      obtain ⟨h1, ⟨x, q, h2, h3, h4, h5⟩, h6⟩ := hs
      exact ⟨h1, ⟨x, q, h2, h3, h4, cell_kept h5 hg hr⟩, cell_kept h6 hg hr⟩) _) (ownFrom_below (Nat.le_refl _) (by omega)))
    ⟨⟨by simp, c1.cell 0, k2, f2, k3, f3⟩, hB0⟩
    ?a1 ?assign ?body ?done ?stop
  case assign =>
    intro l x W K hK
    gi_wp2
    exact hK
  case body =>
    rintro l pre x W ⟨⟨hp, h1, h2, h3, h4, h5⟩, hB⟩ _
    have hx := x.2
    obtain ⟨⟨v, ok, er⟩, hr⟩ : ∃ r, r = takeOf (x.1 : Int) n := ⟨_, rfl⟩
    have HR := Lib.hid hr
    have HT := fun W' => take_any (x.1 : Int) n (by omega) (by omega) (by omega) (by omega) W'
    rw [← hr] at HT
    have HT' := Lib.hid HT
    have HP := Lib.hid hp
    clear HT hr hp
    gi_wp2_with fail
    refine ⟨trivial, (CallsIn.inRound l (callsIn_wide.2 (HT'.out W))).mono ?_⟩
    rintro e W1 ⟨rfl, rfl⟩
    simp only [takeV]
    cases ok
    · gi_wp2
      exact ⟨KeepsOthers.refl _, Below.refl _ _, ⟨fun y hy => (List.mem_append.1 hy).elim (HP.out y) (fun e => by
        obtain rfl : y = x := by simpa using e
        rw [← HR.out]), h1, h2, h3, h4, h5⟩, hB⟩
    · gi_wp2
      have hc := two_set W _ _ (by omega) h2 h4 (.int .i64 v) (.int .i64 0)
      exact ⟨(KeepsOthers.setCell _ _ _).trans (KeepsOthers.setCell _ _ _), ⟨rfl, ⟨x, pre, rfl, HP.out, by rw [← HR.out], by rw [← HR.out]; exact hc.1⟩, hc.2⟩, (hB.setCell (p := ⟨w.heap.size + 1 + 1, 0, none⟩) (by show _ ≤ w.heap.size + 1 + 1; omega) _).setCell (p := ⟨w.heap.size + 1 + 1 + 1, 0, none⟩) (by show _ ≤ w.heap.size + 1 + 1 + 1; omega) _⟩
  case done =>
    rintro D ys W hD rfl ⟨⟨hne, _, h2, h3, h4, h5⟩, hB⟩ hK
    have hc := two_set W _ _ (by omega) h2 h4 (.int .i64 0) (.int .i64 0)
    go_wp2
    have hK' := ((KeepsOthers.setCell W ⟨w.heap.size + 1 + 1, 0, none⟩ (.int .i64 0)).trans (KeepsOthers.setCell _ ⟨w.heap.size + 1 + 1 + 1, 0, none⟩ (.int .i64 0))).same D _ hK rfl
    refine ⟨by simp, .inl ⟨_, _, rfl, run_takeDeferred hK', ?_⟩⟩
    have hc5 := cell_kept hc.1 (grownBy_putObj' _ D (.deferred none)) (fun r e => by cases e; exact ⟨_, hK', rfl⟩)
    have hc6 := cell_kept hc.2 (grownBy_putObj' _ D (.deferred none)) (fun r e => by cases e; exact ⟨_, hK', rfl⟩)
    refine ⟨numV (firstOf n (wordsOf d no 64), 0), ?_, rfl, ((hB.setCell (p := ⟨w.heap.size + 1 + 1, 0, none⟩) (by show _ ≤ w.heap.size + 1 + 1; omega) _).setCell (p := ⟨w.heap.size + 1 + 1 + 1, 0, none⟩) (by show _ ≤ w.heap.size + 1 + 1 + 1; omega) _).trans (belowK_b (w := w) (Nat.le_refl _) _ D _ _ (by omega) hK' rfl rfl)⟩
    rw [firstOf_none n _ hne]
    simp [results, Tryz.f82, go_sem, hc5, hc6, numV]
  case stop =>
    rintro D c pre W hD hpre ⟨⟨rfl, ⟨x, q, rfl, hq, hx, h2⟩, h4⟩, hB⟩ hK
    gi_wp2
    refine ⟨by simp, .inl ⟨_, _, rfl, run_takeDeferred hK, ?_⟩⟩
    have hc5 := cell_kept h2 (grownBy_putObj' _ D (.deferred none)) (fun r e => by cases e; exact ⟨_, hK, rfl⟩)
    have hc6 := cell_kept h4 (grownBy_putObj' _ D (.deferred none)) (fun r e => by cases e; exact ⟨_, hK, rfl⟩)
    obtain ⟨r, hr⟩ := hpre
    refine ⟨numV (firstOf n (wordsOf d no 64), 0), ?_, rfl, hB.trans (belowK_b (w := w) (Nat.le_refl _) W D _ _ (by omega) hK rfl rfl)⟩
    rw [← hr, List.append_assoc, List.singleton_append, firstOf_at n x hx r q hq]
    simp [results, Tryz.f82, go_sem, hc5, hc6, numV]

set_option maxRecDepth 100000 in
set_option maxHeartbeats 1000000 in
theorem number_bad (d : List UInt8) (no n : Int) (h : no < 0 ∨ 1099511627776 < no ∨ n < 1 ∨ 4096 < n) (w : World) :
    Calls Tryz.prog 82 #[.agg (dig d), .int .i64 no, .int .i64 n] w (Ret (numV (0, 1)) w) := by
  by_cases c1 : no < 0
  · clear h
    go_enter Tryz.func82, Tryz.ntmps82
    go_wp2
    refine bodyPost_ret (v := numV (0, 1)) ?_ rfl ⟨rfl, ((((Below.refl _ w).alloc (Nat.le_refl _) _).alloc (by simp) _).alloc (by simp; omega) _).alloc (by simp; omega) _⟩
    simp [results, Tryz.f82, go_sem, numV]
  by_cases c2 : 1099511627776 < no
  · clear h
    go_enter Tryz.func82, Tryz.ntmps82
    go_wp2
    refine bodyPost_ret (v := numV (0, 1)) ?_ rfl ⟨rfl, ((((Below.refl _ w).alloc (Nat.le_refl _) _).alloc (by simp) _).alloc (by simp; omega) _).alloc (by simp; omega) _⟩
    simp [results, Tryz.f82, go_sem, numV]
  by_cases c3 : n < 1
  · clear h
    go_enter Tryz.func82, Tryz.ntmps82
    go_wp2
    refine bodyPost_ret (v := numV (0, 1)) ?_ rfl ⟨rfl, ((((Below.refl _ w).alloc (Nat.le_refl _) _).alloc (by simp) _).alloc (by simp; omega) _).alloc (by simp; omega) _⟩
    simp [results, Tryz.f82, go_sem, numV]
  · have c4 : 4096 < n := by omega
    clear h
    go_enter Tryz.func82, Tryz.ntmps82
    go_wp2
    refine bodyPost_ret (v := numV (0, 1)) ?_ rfl ⟨rfl, ((((Below.refl _ w).alloc (Nat.le_refl _) _).alloc (by simp) _).alloc (by simp; omega) _).alloc (by simp; omega) _⟩
    simp [results, Tryz.f82, go_sem, numV]

theorem number_any (d : List UInt8) (hd : d.length = 32) (no n : Int) (w : World) (hL : Laid w) :
    Calls Tryz.prog 82 #[.agg (dig d), .int .i64 no, .int .i64 n] w (Ret (numV (numberOf d no n)) w) := by
  by_cases h : no < 0 ∨ 1099511627776 < no ∨ n < 1 ∨ 4096 < n
  · rw [numberOf, if_pos h]
    exact number_bad d no n h w
  · rw [numberOf, if_neg h]
    obtain ⟨a, rfl⟩ : ∃ a : Nat, no = a := ⟨no.toNat, by omega⟩
    obtain ⟨b, rfl⟩ : ∃ b : Nat, n = b := ⟨n.toNat, by omega⟩
    exact number_good d hd a b (by omega) (by omega) (by omega) w hL
end Go.Proofs.YtkkcbkfpaoldmaaGreatDoor

/- Walk: draw.Order. -/
namespace Go.Proofs.YtkkcbkfpaoldmaaGreatDoor
open Go.RowKit

theorem takeOf_range (word n : Int) (hn : 1 ≤ n) : 0 ≤ (takeOf word n).1 ∧ (takeOf word n).1 < n := by
  have h1 : 0 ≤ word % n := Int.emod_nonneg _ (by omega)
  have h2 : word % n < n := Int.emod_lt_of_pos _ (by omega)
  unfold takeOf
  split
  · exact ⟨by simp, by simp; omega⟩
  · split
    · exact ⟨by simp, by simp; omega⟩
    · exact ⟨h1, h2⟩
theorem firstOf_range (n : Int) (hn : 1 ≤ n) : ∀ l, 0 ≤ firstOf n l ∧ firstOf n l < n
  | [] => ⟨by simp [firstOf], by simp [firstOf]; omega⟩
  | x :: l => by
    rw [firstOf]
    split
    · exact takeOf_range _ n hn
    · exact firstOf_range n hn l
theorem numberOf_range (d : List UInt8) (no n : Int) (hn : 1 ≤ n) : 0 ≤ (numberOf d no n).1 ∧ (numberOf d no n).1 < n := by
  rw [numberOf]
  split
  · exact ⟨by simp, by simp; omega⟩
  · exact firstOf_range n hn _
/-- The number that is drawn for place i of an order. -/
def pick (d : List UInt8) (i : Nat) : Nat := (numberOf d i ((i : Int) + 1)).1.toNat
theorem pick_le (d : List UInt8) (i : Nat) : pick d i ≤ i := by
  have := numberOf_range d i ((i : Int) + 1) (by omega)
  unfold pick
  omega
theorem pick_cast (d : List UInt8) (i : Nat) : ((pick d i : Nat) : Int) = (numberOf d i ((i : Int) + 1)).1 := by
  have := numberOf_range d i ((i : Int) + 1) (by omega)
  unfold pick
  omega
/-- What draw.Order returns. -/
def orderOf (d : List UInt8) (n : Nat) : List Int := shuf (pick d) (n - 1) (iota n)
theorem orderOf_length (d : List UInt8) (n : Nat) : (orderOf d n).length = n := by rw [orderOf, shuf_length, iota_length]

def OrderPost (d : List UInt8) (n : Nat) (w : World) (e : Ending) (w' : World) : Prop := ∃ v, e = .returned (.tuple #[v, .int .i64 0]) ∧ IOwn w' w.heap.size v (orderOf d n) ∧ Below w.heap.size w w'
def BadPost (w : World) (e : Ending) (w' : World) : Prop := e = .returned (.tuple #[.slice none 0 0, .int .i64 1]) ∧ Below w.heap.size w w'
def ORel (w : World) (d : List UInt8) (n : Nat) (x v : Value) (wr : World) : Prop :=
  ∃ j : Nat, j ≤ n ∧ x = .int .i64 j ∧ IOwn wr (w.heap.size + 1) v (iota j) ∧ Blk wr w.heap.size 31 (dig d) ∧ Below w.heap.size w wr

def ORel2 (w : World) (d : List UInt8) (n : Nat) (v x : Value) (wr : World) : Prop :=
  ∃ (i : Nat) (L : List Int), (x = .int .i64 i ∨ (i = 0 ∧ x = .int .i64 (-1))) ∧ (i < n ∨ i = 0) ∧ IOwn wr (w.heap.size + 1) v L ∧ L.length = n ∧ shuf (pick d) i L = orderOf d n ∧ Blk wr w.heap.size 31 (dig d) ∧ Below w.heap.size w wr
theorem ORel2.start {w : World} {d : List UInt8} {n : Nat} {v : Value} {wr : World} (hown : IOwn wr (w.heap.size + 1) v (iota n)) (hD : Blk wr w.heap.size 31 (dig d)) (hB : Below w.heap.size w wr) : ORel2 w d n v (.int .i64 ((n : Int) - 1)) wr := by
  rcases Nat.eq_zero_or_pos n with rfl | h
  · exact ⟨0, iota 0, .inr ⟨rfl, rfl⟩, .inr rfl, hown, rfl, rfl, hD, hB⟩
  · exact ⟨n - 1, iota n, .inl (by congr 1; omega), .inl (by omega), hown, iota_length n, rfl, hD, hB⟩
theorem ORel2.drew {w wr : World} {d : List UInt8} {n : Nat} {v x : Value} (h : ORel2 w d n v x wr) : ORel2 w d n v x wr.drew := by
  obtain ⟨i, L, h1, h2, h3, h4, h5, h6, h7⟩ := h
  exact ⟨i, L, h1, h2, own_drew h3, h4, h5, h6, h7.drew⟩
theorem IOwn.row {w : World} {base : Nat} {v : Value} {l : List Int} {n : Nat} (h : IOwn w base v l) (hn : l.length = n) (h0 : 0 < n) : ∃ g c, v = .slice (some ⟨g, 0, none⟩) n c ∧ n ≤ c ∧ w.ownsRow base 3 1 (.slice (some ⟨g, 0, none⟩) n c) n (icells l) := by
  subst hn
  rcases h.2 with ⟨_, h1⟩ | ⟨g, cap, cur, rfl, _, _, hnc, _, _, _⟩
  · omega
  · exact ⟨g, cap, rfl, hnc, h⟩
theorem ORel2.swap {w wr : World} {d : List UInt8} {n i g c : Nat} {L : List Int} (hrow : wr.ownsRow (w.heap.size + 1) 3 1 (.slice (some ⟨g, 0, none⟩) n c) n (icells L)) (hLn : L.length = n) (hi : 0 < i) (hin : i < n) (hs : shuf (pick d) i L = orderOf d n)
    (hD : Blk wr w.heap.size 31 (dig d)) (hB : Below w.heap.size w wr) (x : Value) (hx : x = .int .i64 ((i : Int) - 1)) (k : Nat) (hk : k = pick d i) (u v : Value) (hu : u = .int .i64 (L.getD k 0)) (hv : v = .int .i64 (L.getD i 0)) :
    ORel2 w d n (.slice (some ⟨g, 0, none⟩) n c) x ((wr.setCell ⟨g, i, none⟩ u).setCell ⟨g, k, none⟩ v) := by
  subst hk hu hv hx hLn
  have hown : IOwn wr (w.heap.size + 1) (.slice (some ⟨g, 0, none⟩) L.length c) L := hrow
  obtain ⟨h1, g1⟩ := hown.swap i (pick d i)
  obtain ⟨i, rfl⟩ : ∃ j, i = j + 1 := ⟨i - 1, by omega⟩
  have hlt := World.ownsRow.lt hown g rfl
  refine ⟨i, swapL L (i + 1) (pick d (i + 1)), .inl (by congr 1; omega), .inl (by omega), h1, swapL_length _ _ _, hs, hD.grown g1.1 (fun e => by have : w.heap.size = g := Option.some.inj e; omega), hB.trans (g1.below hB.size fun k e => by have : g = k := Option.some.inj e; omega)⟩

set_option maxRecDepth 100000 in
set_option maxHeartbeats 4000000 in
theorem order_good (d : List UInt8) (hd : d.length = 32) (n : Nat) (hn : n ≤ 4096) (w : World) (hL : Laid w) :
    Calls Tryz.prog 52 #[.agg (dig d), .int .i64 n] w (OrderPost d n w) := by
  go_enter Tryz.func52, Tryz.ntmps52
  go_wp2_with fail
  go_loopw [4, 17] (fun v x wr => ORel w d n x v wr) (fun _ x _ => n - (intOf x).toNat)
  case atStart => exact ⟨0, by omega, rfl, IOwn.nil _ _, Blk.new _ _ _, (Below.refl _ w).alloc (Nat.le_refl _) _⟩
  case round =>
    obtain ⟨j, hj, rfl, hown, hD, hB⟩ := hrel
    have hlt0 := hD.lt
    by_cases hlt : j < n
    · have hO1 := hown.alloc (.cells #[.int .i64 j] 3)
      have hlen : (iota j).length = j := iota_length j
      go_wp2_with (at_builtin; refine app_int rfl _ _ rfl (w.heap.size + 1) u4 _ rfl hO1 j (Blk.new _ _ _) rfl (by omega) (by simp; omega) ?_; intro v2 w2 hown2 hg2)
      go_roundw
      case rel =>
        have hg := hg2.alloc_first
        refine ⟨j + 1, by omega, by go_num, by rw [iota_succ]; exact hown2, hD.grown hg.1 (fun e => by have := (World.ownsRow.lt hown _ e.symm).1; omega), hB.trans (hg.below hB.size fun k hk => by have := (World.ownsRow.lt hown _ hk).1; omega)⟩
      case measure => simp [intOf]; omega
    · obtain rfl : j = n := by omega
      go_wp2_with fail
      have hst := ORel2.start hown hD hB
      have HL := Lib.hid hL
      clear hown hD hB hlt hlt0 hL
      go_loopw [7] (fun x wr => ORel2 w d j u4 x wr) (fun x _ => (intOf x).toNat)
      case atStart => exact hst
      case round =>
        clear hst
        obtain ⟨i, L, hx, hin, hown, hLn, hs, hD, hB⟩ := hrel
        by_cases hi : 0 < i
        · obtain rfl : u7 = .int .i64 i := by
            rcases hx with h | h
            · exact h
            · omega
          have hij : i < j := by omega
          have hkle := pick_le d i
          have hpc := pick_cast d i
          have hNN := Lib.hid (fun W hW => number_any d hd i ((i : Int) + 1) W hW)
          clear hx hin
          go_wp2_with (refine load_dig rfl _ rfl d hd hD rfl ?_)
          obtain ⟨er, her⟩ : ∃ er, numV (numberOf d i ((i : Int) + 1)) = .tuple #[.int .i64 ((pick d i : Nat) : Int), .int .i64 er] := ⟨_, by rw [hpc]; rfl⟩
          rw [her] at hNN
          obtain ⟨k, hk⟩ : ∃ k, k = pick d i := ⟨_, rfl⟩
          rw [← hk] at hNN hkle
          have HK := Lib.hid hk
          clear her hk hpc
          refine (hNN.out wr (HL.out.below hB)).mono ?_
          rintro e w2 ⟨rfl, hb2⟩
          have hown2 := hown.below hb2
          have hD2 := hD.below hb2 hD.lt
          have hB2 := hB.trans (hb2.mono hB.size)
          clear hown hD hB hb2 hNN
          obtain ⟨g, c, rfl, hlc, hrow⟩ := hown2.row hLn (by omega)
          clear hown2
          have HS := Lib.hid (fun x hx u v hu hv => ORel2.swap hrow hLn hi hij hs hD2 hB2 x hx k HK.out u v hu hv)
          have ci : w2.cell? ⟨g, i, none⟩ = some (.int .i64 (L.getD i 0)) := (World.ownsRow.cellAt hrow i (by omega)).trans (icells_get L i (by omega))
          have ck : w2.cell? ⟨g, k, none⟩ = some (.int .i64 (L.getD k 0)) := (World.ownsRow.cellAt hrow k (by omega)).trans (icells_get L k (by omega))
          have fi := World.ownsRow.frozenAt hrow i
          have fk := World.ownsRow.frozenAt hrow k
          clear hrow hD2 hB2
          obtain ⟨li, hli⟩ : ∃ li, li = L.getD i 0 := ⟨_, rfl⟩
          obtain ⟨lk, hlk⟩ : ∃ lk, lk = L.getD k 0 := ⟨_, rfl⟩
          rw [← hli] at ci
          rw [← hlk] at ck
          have HLI := Lib.hid hli
          have HLK := Lib.hid hlk
          clear hli hlk
          go_wp2_with fail
          have hkj : k < j := by omega
          obtain ⟨_, c15⟩ := cell?_setCell_some (p := ⟨g, i, none⟩) (x := .int .i64 lk) ck
          go_region
          clear ci ck fi fk c15
          go_wp2_with fail
          go_roundw
          case rel => exact (HS.out _ rfl (.int .i64 lk) (.int .i64 li) (by rw [HLK.out]) (by rw [HLI.out])).drew
          case measure => simp [intOf]; omega
        · obtain ⟨A, c, rfl, -⟩ := hown.shape
          have ho : i = 0 := by omega
          subst ho
          rcases hx with rfl | ⟨-, rfl⟩
          all_goals
            go_wp2
            go_ret2
            refine ⟨_, rfl, ?_, hB⟩
            have ho2 : L = orderOf d j := hs
            rw [← ho2]
            have h4 := own_weaken hown (Nat.le_succ _)
            rw [hLn] at h4
            show World.ownsRow wr w.heap.size 3 1 _ L.length (icells L)
            rw [hLn]
            exact h4

set_option maxRecDepth 100000 in
set_option maxHeartbeats 1000000 in
theorem order_bad (d : List UInt8) (n : Int) (h : n < 0 ∨ 4096 < n) (w : World) : Calls Tryz.prog 52 #[.agg (dig d), .int .i64 n] w (BadPost w) := by
  by_cases c1 : n < 0
  · clear h
    go_enter Tryz.func52, Tryz.ntmps52
    go_wp2
    go_ret2
    exact ⟨rfl, (Below.refl _ w).alloc (Nat.le_refl _) _⟩
  · have c2 : 4096 < n := by omega
    clear h
    go_enter Tryz.func52, Tryz.ntmps52
    go_wp2
    go_ret2
    exact ⟨rfl, (Below.refl _ w).alloc (Nat.le_refl _) _⟩
end Go.Proofs.YtkkcbkfpaoldmaaGreatDoor

/- Plain: orders; walk: sample.Draw. -/
namespace Go.Proofs.YtkkcbkfpaoldmaaGreatDoor
open Go.RowKit

theorem getD_set (l : List Int) (i p : Nat) (x : Int) (hi : i < l.length) : (l.set i x).getD p 0 = if p = i then x else l.getD p 0 := by
  by_cases h : p = i
  · subst h
    rw [if_pos rfl, List.getD_eq_getElem?_getD, List.getElem?_set_self hi]
    rfl
  · rw [if_neg h, List.getD_eq_getElem?_getD, List.getD_eq_getElem?_getD, List.getElem?_set_ne (fun e => h e.symm)]
theorem getD_swapL (l : List Int) (i k p : Nat) (hi : i < l.length) (hk : k < l.length) : (swapL l i k).getD p 0 = if p = k then l.getD i 0 else if p = i then l.getD k 0 else l.getD p 0 := by
  rw [swapL, getD_set _ _ _ _ (by rw [List.length_set]; exact hk), getD_set _ _ _ _ hi]
/-- No number twice. -/
def Dis (l : List Int) : Prop := ∀ a b, a < l.length → b < l.length → l.getD a 0 = l.getD b 0 → a = b
theorem Dis.swap {l : List Int} (h : Dis l) (i k : Nat) (hi : i < l.length) (hk : k < l.length) : Dis (swapL l i k) := by
  have tr : ∀ p, p < l.length → (swapL l i k).getD p 0 = l.getD (if p = k then i else if p = i then k else p) 0 := fun p _ => by
    rw [getD_swapL l i k p hi hk]
    split
    · rfl
    · split <;> rfl
  have lt : ∀ p, p < l.length → (if p = k then i else if p = i then k else p) < l.length := fun p hp => by
    split
    · exact hi
    · split
      · exact hk
      · exact hp
  intro a b ha hb hab
  rw [swapL_length] at ha hb
  rw [tr a ha, tr b hb] at hab
  have e := h _ _ (lt a ha) (lt b hb) hab
  by_cases a1 : a = k <;> by_cases a2 : a = i <;> by_cases b1 : b = k <;> by_cases b2 : b = i <;> simp only [a1, a2, b1, b2, if_true, if_false] at e <;> (first | omega | (split at e <;> omega))
theorem iota_getD (n k : Nat) (h : k < n) : (iota n).getD k 0 = (k : Int) := by
  rw [List.getD_eq_getElem?_getD, iota, List.getElem?_map, List.getElem?_range h]
  rfl
theorem dis_iota (n : Nat) : Dis (iota n) := by
  intro a b ha hb h
  rw [iota_length] at ha hb
  rw [iota_getD n a ha, iota_getD n b hb] at h
  omega
theorem swapL_self (l : List Int) (i : Nat) (hi : i < l.length) : swapL l i i = l := by
  apply List.ext_getElem?
  intro p
  by_cases hp : p < l.length
  · have h1 := getD_swapL l i i p hi hi
    have h2 : p < (swapL l i i).length := by rw [swapL_length]; exact hp
    rw [List.getD_eq_getElem?_getD, List.getD_eq_getElem?_getD, List.getD_eq_getElem?_getD, List.getElem?_eq_getElem h2, List.getElem?_eq_getElem hp, List.getElem?_eq_getElem hi] at h1
    rw [List.getElem?_eq_getElem h2, List.getElem?_eq_getElem hp]
    congr 1
    simp only [Option.getD_some] at h1
    rw [h1]
    split
    · next h => simp only [h]
    · rfl
  · rw [List.getElem?_eq_none (by rw [swapL_length]; omega), List.getElem?_eq_none (by omega)]
/-- The places above i stay as they are. -/
theorem shuf_above (ks : Nat → Nat) (hks : ∀ i, ks i ≤ i) : ∀ (i : Nat) (l : List Int) (p : Nat), i < l.length → i < p → (shuf ks i l).getD p 0 = l.getD p 0
  | 0, _, _, _, _ => rfl
  | i + 1, l, p, h, hp => by
    rw [shuf, shuf_above ks hks i (swapL l (i + 1) (ks (i + 1))) p (by rw [swapL_length]; omega) (by omega), getD_swapL _ _ _ _ h (by have := hks (i + 1); omega)]
    rw [if_neg (by have := hks (i + 1); omega), if_neg (by omega)]
/-- At place i lies what lay at the place that was drawn. -/
theorem shuf_at (ks : Nat → Nat) (hks : ∀ i, ks i ≤ i) (i : Nat) (l : List Int) (h : i < l.length) : (shuf ks i l).getD i 0 = l.getD (ks i) 0 := by
  cases i with
  | zero =>
    have : ks 0 = 0 := by have := hks 0; omega
    rw [this]; rfl
  | succ i =>
    rw [shuf, shuf_above ks hks i _ (i + 1) (by rw [swapL_length]; omega) (by omega), getD_swapL _ _ _ _ h (by have := hks (i + 1); omega)]
    split
    · next e => rw [← e]
    · rw [if_pos rfl]
/-- One more exchange on the way back. -/
theorem shuf_step (ks : Nat → Nat) (hks : ∀ i, ks i ≤ i) (i : Nat) (l : List Int) (h : i < l.length) : shuf ks (i - 1) (swapL l i (ks i)) = shuf ks i l := by
  cases i with
  | zero =>
    have : ks 0 = 0 := by have := hks 0; omega
    rw [this, swapL_self l 0 h]
  | succ i => rfl
/-- The first k numbers of l lie in a block of the call's own; nothing is said where k is 0. -/
def Held (w : World) (base : Nat) (A : Option Addr) (k : Nat) (l : List Int) : Prop :=
  k = 0 ∨ ∃ g cs, A = some ⟨g, 0, none⟩ ∧ base ≤ g ∧ Blk w g 3 cs ∧ k ≤ cs.size ∧ ∀ j, j < k → cs[j]? = some (.int .i64 (l.getD j 0))
theorem Held.below {w w' : World} {base : Nat} {A : Option Addr} {k : Nat} {l : List Int} (h : Held w base A k l) (hb : Below w.heap.size w w') : Held w' base A k l := by
  rcases h with h | ⟨g, cs, h1, h2, h3, h4, h5⟩
  · exact .inl h
  · exact .inr ⟨g, cs, h1, h2, h3.below hb h3.lt, h4, h5⟩
theorem Held.rd {w : World} {base : Nat} {A : Option Addr} {k : Nat} {l : List Int} (h : Held w base A k l) : Rd w w.heap.size A k (fun j => .int .i64 (l.getD j 0)) := by
  rcases h with rfl | ⟨g, cs, rfl, h2, h3, h4, h5⟩
  · exact Rd.zero
  · exact Rd.of_blk h3 h3.lt fun j hj => by rw [Nat.zero_add]; exact h5 j hj
def SampPost (d : List UInt8) (n k : Nat) (w : World) (e : Ending) (w' : World) : Prop :=
  ∃ A, e = .returned (.tuple #[.slice A k k, .int .i64 0]) ∧ Held w' w.heap.size A k (orderOf d n) ∧ Below w.heap.size w w'
theorem slice3_some (W : World) (g n c k : Nat) (h : k ≤ n) (hc : n ≤ c) : ∃ A, (A = some ⟨g, 0, none⟩) ∧ (Instr.slice 25 (.slice (some ⟨g, 0, none⟩) n c) none (some (.int .i64 (k : Int))) (some (.int .i64 (k : Int)))).run Tryz.prog W = .ok (.slice A k k) W := by
  have h1 : k ≤ c := by omega
  refine ⟨some ⟨g, 0, none⟩, rfl, ?_⟩
  simp [Instr.slice, run_underlying Tryz.underlying25, Instr.sliceBounds, Instr.sliceBound, asIntOf, h1, Addr.add_mid]
theorem slice3_none (W : World) : (Instr.slice 25 (.slice none 0 0) none (some (.int .i64 ((0 : Nat) : Int))) (some (.int .i64 ((0 : Nat) : Int)))).run Tryz.prog W = .ok (.slice none 0 0) W := by
  simp [Instr.slice, run_underlying Tryz.underlying25, Instr.sliceBounds, Instr.sliceBound, asIntOf]

set_option maxRecDepth 100000 in
set_option maxHeartbeats 2000000 in
theorem sdraw_good (d : List UInt8) (hd : d.length = 32) (n k : Nat) (hk : k ≤ n) (hn : n ≤ 4096) (w : World) (hL : Laid w) :
    Calls Tryz.prog 19 #[.agg (dig d), .int .i64 n, .int .i64 k] w (SampPost d n k w) := by
  have hB0 : Below w.heap.size w (w.alloc (.cells (dig d) 31)) := (Below.refl _ w).alloc (Nat.le_refl _) _
  have HO := Lib.hid (order_good d hd n hn _ (hL.below hB0))
  clear hL
  have k1 : decide ((k : Int) < 0) = false := decide_eq_false (by omega)
  have k2 : decide ((n : Int) < (k : Int)) = false := decide_eq_false (by omega)
  have k2n : decide (n < k) = false := decide_eq_false (by omega)
  have k3 : decide ((4096 : Int) < (n : Int)) = false := decide_eq_false (by omega)
  have k3n : decide (4096 < n) = false := decide_eq_false (by omega)
  go_enter Tryz.func19, Tryz.ntmps19
  go_wp2_with (refine load_dig rfl _ rfl d hd (Blk.new w _ _) rfl ?_)
  refine HO.out.mono ?_
  rintro e w1 ⟨v, rfl, hown, hb1⟩
  have hB1 := hB0.trans (hb1.mono hB0.size)
  rcases hown.2 with ⟨hv, h0⟩ | ⟨g, cap, cur, hv, hbg, hg, hnc, hcm, hcs, htake⟩
  · rw [orderOf_length] at h0
    subst h0
    obtain rfl : k = 0 := by omega
    subst hv
    have hsl := fun W => slice3_none W
    clear hown hb1 hB0
    go_wp2_with fail
    go_ret2
    exact ⟨none, rfl, .inl rfl, hB1⟩
  · rw [orderOf_length] at hv hnc htake
    subst hv
    obtain ⟨A, hA, hsl0⟩ := slice3_some w1 g n cap k hk hnc
    have hsl : ∀ W : World, (Instr.slice 25 (.slice (some ⟨g, 0, none⟩) n cap) none (some (.int .i64 (k : Int))) (some (.int .i64 (k : Int)))).run Tryz.prog W = .ok (.slice (some ⟨g, 0, none⟩) k k) W := fun W => by
      obtain ⟨A, rfl, h⟩ := slice3_some W g n cap k hk hnc
      exact h
    have hheld : Held w1 w.heap.size (some ⟨g, 0, none⟩) k (orderOf d n) := by
      refine .inr ⟨g, cur, rfl, Nat.le_trans hB0.size hbg, hg, by omega, fun j hj => ?_⟩
      have h1 := icells_get (orderOf d n) j (by rw [orderOf_length]; omega)
      have h2 : (cur.toList.take (n * 1))[j]? = cur[j]? := by rw [List.getElem?_take_of_lt (by omega)]; simp
      rw [← h2, htake, h1]
    have HH := Lib.hid hheld
    clear hown hb1 hB0 hsl0 hA hheld hg hcs htake hcm hbg
    go_wp2_with fail
    go_ret2
    exact ⟨_, rfl, HH.out, hB1⟩
set_option maxRecDepth 100000 in
set_option maxHeartbeats 1000000 in
theorem sdraw_bad (d : List UInt8) (n k : Int) (h : k < 0 ∨ n < k ∨ 4096 < n) (w : World) : Calls Tryz.prog 19 #[.agg (dig d), .int .i64 n, .int .i64 k] w (BadPost w) := by
  by_cases c1 : k < 0
  · clear h
    go_enter Tryz.func19, Tryz.ntmps19
    go_wp2
    go_ret2
    exact ⟨rfl, (Below.refl _ w).alloc (Nat.le_refl _) _⟩
  by_cases c2 : n < k
  · clear h
    go_enter Tryz.func19, Tryz.ntmps19
    go_wp2
    go_ret2
    exact ⟨rfl, (Below.refl _ w).alloc (Nat.le_refl _) _⟩
  · have c3 : 4096 < n := by omega
    clear h
    go_enter Tryz.func19, Tryz.ntmps19
    go_wp2
    go_ret2
    exact ⟨rfl, (Below.refl _ w).alloc (Nat.le_refl _) _⟩
end Go.Proofs.YtkkcbkfpaoldmaaGreatDoor

/- Several texts in one: W14, W15, W16, W17, W18. -/
import Derived.RangeFuncNested
import Derived.RangeFuncBound
import Derived.RangeFuncCalls
import Derived.RangeFuncLeaves
import Derived.Shelf.Abstract
import Derived.Shelf.RegionOpen
import Derived.OwnWalkIn
import Derived.TacticsInMore
import Derived.LoopNIn
import Derived.LoopIn
import Derived.Deep.Cut
import Derived.Test.YtibnikokgbfcdaaDoorSeq
import Derived.Test.YtibnikokgbfcdaaDoorBase
import Derived.Test.YtibnikokgbfcdaaDoorLow
import Derived.BigQuiet
import Derived.OwnWalk
/- Walks: the iterator of draw.all. -/
namespace Go.Proofs.YtibnikokgbfcdaaDoor
open Go.RowKit Go.Shelf
attribute [local go_sem] Oper.semAt_some

/-- The number that the first k of some bytes are. -/
def be (l : List UInt8) : Nat → Nat
  | 0 => 0
  | k + 1 => be l k * 256 + (l.getD k 0).toNat
theorem be_lt (l : List UInt8) : ∀ k, be l k < 256 ^ k
  | 0 => by simp [be]
  | k + 1 => by
    have h := be_lt l k
    have h2 := (l.getD k 0).toNat_lt
    rw [be, Nat.pow_succ]
    omega
/-- The text of a word of draw.all. -/
def wordText (d : List UInt8) (no i : Nat) : List UInt8 := listB [textB d, intB no, intB i]
def drawTag : List UInt8 := [100, 114, 97, 119]
def wordOf (d : List UInt8) (no i : Nat) : Nat := be (tagged drawTag (wordText d no i)) 4
theorem wordOf_lt (d : List UInt8) (no i : Nat) : wordOf d no i < 4294967296 := be_lt _ 4
abbrev W32 := { x : Nat // x < 4294967296 }
def wordsOf (d : List UInt8) (no k : Nat) : List W32 := (List.range k).map fun i => ⟨wordOf d no i, wordOf_lt d no i⟩
theorem wordsOf_succ (d : List UInt8) (no k : Nat) : wordsOf d no (k + 1) = wordsOf d no k ++ [⟨wordOf d no k, wordOf_lt d no k⟩] := by simp [wordsOf, List.range_succ]
theorem wordsOf_length (d : List UInt8) (no k : Nat) : (wordsOf d no k).length = k := by simp [wordsOf]
theorem wordsOf_prefix (d : List UInt8) (no k m : Nat) (h : k ≤ m) : wordsOf d no k <+: wordsOf d no m := by
  obtain ⟨j, rfl⟩ : ∃ j, m = k + j := ⟨m - k, by omega⟩
  rw [wordsOf, wordsOf, List.range_add, List.map_append]
  exact List.prefix_append _ _
theorem or_byte_nat (a b : Nat) (h : b < 256) : (a * 256) ||| b = a * 256 + b := by
  have := Nat.two_pow_add_eq_or_of_lt (i := 8) (b := b) h a
  rw [show 2 ^ 8 = 256 from rfl, Nat.mul_comm 256 a] at this
  exact this.symm
theorem or_byte (a b : Nat) (ha : a < 4294967296) (hb : b < 256) : bits .or .i64 ((a * 256 : Nat) : Int) (b : Int) = ((a * 256 + b : Nat) : Int) := by
  show IntKind.i64.wrap ((BitVec.ofInt 64 ((a * 256 : Nat) : Int) ||| BitVec.ofInt 64 (b : Int)).toNat : Int) = _
  rw [BitVec.toNat_or, BitVec.toNat_ofInt, BitVec.toNat_ofInt]
  have e1 : (((a * 256 : Nat) : Int) % ((2 ^ 64 : Nat) : Int)).toNat = a * 256 := by omega
  have e2 : ((b : Int) % ((2 ^ 64 : Nat) : Int)).toNat = b := by omega
  rw [e1, e2, or_byte_nat a b hb, IntKind.wrap_i64]
  omega
theorem numB_len_bound (u : Nat) (h : u < 18446744073709551616) : (numB u).length ≤ 10 := numB_len10 u h
theorem wordText_len (d : List UInt8) (no i : Nat) (hd : d.length = 32) (h1 : no < 4611686018427387000) (h2 : i < 4611686018427387000) : (wordText d no i).length ≤ 1000 := by
  have a1 := numB_len10 32 (by omega)
  have a2 := numB_len10 (2 * no) (by omega)
  have a3 := numB_len10 (2 * i) (by omega)
  have a4 := numB_len10 3 (by omega)
  simp only [wordText, listB, textB, intB, List.length_cons, List.length_append, List.flatten_cons, List.flatten_nil, List.length_nil, hd, Nat.reduceAdd]
  omega

theorem own_shape {w : World} {base : Nat} {v : Value} {n : Nat} {l : List UInt8} (h : w.ownsRow base 5 1 v n (bcells l)) : ∃ A c, v = .slice A l.length c ∧ n = l.length ∧ n ≤ c ∧ c ≤ 9223372036854775807 ∧ RdB w w.heap.size A l := by
  rcases h.2 with ⟨rfl, h0⟩ | ⟨g, cap, cur, rfl, hbg, hg, hnc, hcm, hcs, htake⟩
  · have h1 := h.1
    rw [bcells_len, h0] at h1
    obtain rfl := List.eq_nil_of_length_eq_zero h1
    exact ⟨none, 0, rfl, h0, by omega, by omega, RdB.nil⟩
  · have := RdB.of_own h
    exact ⟨_, cap, by rw [← this.1], this.1, hnc, by simp only [maxLen] at hcm; omega, this.2⟩
theorem Laid.below' {w w' : World} {n₀ : Nat} (h : Laid w) (hb : Below n₀ w w') (h0 : 0 < n₀) (h1 : 1 < n₀) : Laid w' :=
  ⟨fun i hi => (hb.cell (p := ⟨0, i, none⟩) h0).trans (h.start i hi), fun t ht => (hb.cell (p := ⟨1, t, none⟩) h1).trans (h.nums t ht)⟩
theorem grown_of_below {A B : World} (h : Below A.heap.size A B) : A.grownBy B none := ⟨h.os, h.tape, h.output, h.size, fun i hi _ => h.block i hi⟩
set_option maxRecDepth 100000 in
set_option maxHeartbeats 4000000 in
theorem all1_in (n : Nat) (l bd bn n₀ : Nat) (d : List UInt8) (hd : d.length = 32) (no : Nat) (hno : no < 4611686018427387000) (hbd : bd < n₀) (hbn : bn < n₀) (td tn : TypeId) (J Jx : List W32 → World → Prop)
    (W : World) (hn0 : n₀ ≤ W.heap.size) (hJ : AbidesFrom W.heap.size J)
    (hY : ∀ pre x W1, J pre W1 → pre.length < 64 → YieldAt Fence.wide (n - 1) Tryd.prog l #[.int .i64 (x.1 : Int)] W1 fun e W' =>
      (e = .returned (.bool true) ∧ J (pre ++ [x]) W' ∧ Below n₀ W1 W') ∨ (e = .returned (.bool false) ∧ Jx (pre ++ [x]) W'))
    (hL : Laid W) (hL0 : 0 < n₀) (hL1 : 1 < n₀) (hD : Blk W bd td (dig d)) (hN : Blk W bn tn #[.int .i64 no]) (h0 : J [] W) :
    Calls Tryd.prog 108 #[.func (.yield l) #[] #[], .pointer (some ⟨bd, 0, none⟩), .pointer (some ⟨bn, 0, none⟩)] W fun e W' => (∃ v, e = .returned v) ∧
      ((∃ xs, xs = wordsOf d no 64 ∧ J xs W') ∨ (∃ pre, pre <+: wordsOf d no 64 ∧ Jx pre W')) := by
  have HY := Lib.hid hY
  have HJ := Lib.hid hJ
  clear hY hJ
  go_enter Tryd.func108, Tryd.ntmps108
  go_wp2_with fail
  go_loopw [8] (fun i wr => ∃ k : Nat, k ≤ 64 ∧ i = .int .i64 k ∧ J (wordsOf d no k) wr ∧ Below n₀ W wr) (fun i _ => 64 - (intOf i).toNat)
  case atStart => exact ⟨0, by omega, rfl, h0, Below.refl _ _⟩
  case round =>
    obtain ⟨k, hk, rfl, hJs, hB⟩ := hrel
    have hDw := hD.below hB hbd
    have hNw := hN.below hB hbn
    have hcn : wr.cell? ⟨bn, 0, none⟩ = some (.int .i64 no) := hNw.cell 0
    clear hD hN
    by_cases hlt : k < 64
    · go_wp2_with (refine load_dig rfl _ rfl d hd hDw rfl ?_)
      have hX : Blk (wr.alloc (.cells #[.iface 23 (.agg (dig d)), .iface 3 (.int .i64 no), .iface 3 (.int .i64 k)] 20)) wr.heap.size 20 #[.iface 23 (.agg (dig d)), .iface 3 (.int .i64 no), .iface 3 (.int .i64 k)] := Blk.new _ _ _
      have hB1 : Below n₀ W (wr.alloc (.cells #[.iface 23 (.agg (dig d)), .iface 3 (.int .i64 no), .iface 3 (.int .i64 k)] 20)) := hB.alloc (Nat.le_trans hn0 hB.size) _
      have hJ1 : J (wordsOf d no k) (wr.alloc (.cells #[.iface 23 (.agg (dig d)), .iface 3 (.int .i64 no), .iface 3 (.int .i64 k)] 20)) := HJ.out _ _ _ none hJs (World.grownBy_alloc wr _ none) (fun r e => by cases e)
      generalize wr.alloc (.cells #[.iface 23 (.agg (dig d)), .iface 3 (.int .i64 no), .iface 3 (.int .i64 k)] 20) = w1 at hX hB1 hJ1 ⊢
      have hwl := wordText_len d no k hd hno (by omega)
      have HWL := Lib.hid hwl
      have HS := Lib.hid hB1.size
      clear hwl
      have hR : Rd w1 w1.heap.size (some ⟨wr.heap.size, 0, none⟩) 3 (fun j => ([It.dig d, It.num no, It.num k].getD j (.num 0)).iface) := Rd.of_blk hX hX.lt fun j hj => by
        rcases j with _ | _ | _ | j <;> first | rfl | omega
      refine (dtext_any [.dig d, .num no, .num k] _ 3 w1 hR (by simp) (by
        intro x hx
        simp only [List.mem_cons, List.not_mem_nil, or_false] at hx
        rcases hx with rfl | rfl | rfl
        · exact hd
        · show no ≤ _; omega
        · show k ≤ _; omega) (by have := HWL.out; show (wordText d no k).length + 16 ≤ _; omega)).mono ?_
      rintro e2 w2 ⟨v2, rfl, hown2, hb2⟩
      clear hR hX
      have hown2' : w2.ownsRow w1.heap.size 5 1 v2 (wordText d no k).length (bcells (wordText d no k)) := hown2
      clear hown2
      obtain ⟨T, hT⟩ : ∃ T, T = wordText d no k := ⟨_, rfl⟩
      rw [← hT] at hown2'
      have HT := Lib.hid hT
      clear hT
      obtain ⟨A2, c2, rfl, -, hc2, hc3, hr2⟩ := own_shape hown2'
      clear hown2'
      have hT2 : T.length ≤ 1000 := by rw [HT.out]; exact HWL.out
      obtain ⟨m, hm⟩ : ∃ m, m = T.length := ⟨_, rfl⟩
      have hm2 : m ≤ 1000 := by omega
      have hmc : m ≤ c2 := by omega
      have htag := fun (w' : World) (hL' : Laid w') (hr' : RdB w' w'.heap.size A2 T) => tagged_any ⟨#[100, 114, 97, 119]⟩ A2 T c2 w' hL' hr' (Nat.le_trans hT2 (by omega)) (by show 4 ≤ _; omega)
      rw [← hm] at htag ⊢
      have HTG := Lib.hid htag
      have HM := Lib.hid hm
      clear htag hm hT2 hc2
      have hB2 : Below n₀ W w2 := hB1.trans (hb2.mono (Nat.le_trans hn0 HS.out))
      have hJ2 : J (wordsOf d no k) w2 := HJ.out _ _ _ none hJ1 (grown_of_below hb2) (fun r e => by cases e)
      clear hb2 hJ1 hB1
      go_wp2_with fail
      refine (HTG.out w2 (hL.below' hB2 hL0 hL1) hr2).mono ?_
      rintro e3 w3 ⟨rfl, hb3⟩
      have hB3 : Below n₀ W w3 := hB2.trans (hb3.mono (Nat.le_trans hn0 hB2.size))
      have hJ3 : J (wordsOf d no k) w3 := HJ.out _ _ _ none hJ2 (grown_of_below hb3) (fun r e => by cases e)
      clear hb3 hJ2 hB2 hr2
      have hH : ∃ H, H = tagged drawTag T := ⟨_, rfl⟩
      obtain ⟨H, hH⟩ := hH
      have hHl : H.length = 32 := by rw [hH]; exact tagged_length _ _
      have hV : tagged (ByteArray.mk #[100, 114, 97, 119]).data.toList T = H := hH.symm
      rw [hV]
      have HH := Lib.hid hH
      clear hH hV
      go_wp2_with (refine store_dig_new rfl _ _ rfl _ _ _ H hHl rfl rfl rfl ?_)
      have hH4 : Blk (w3.alloc (.cells (dig H) 23)) w3.heap.size 23 (dig H) := Blk.new _ _ _
      have hB4 : Below n₀ W (w3.alloc (.cells (dig H) 23)) := hB3.alloc (Nat.le_trans hn0 hB3.size) _
      have hJ4 : J (wordsOf d no k) (w3.alloc (.cells (dig H) 23)) := HJ.out _ _ _ none hJ3 (World.grownBy_alloc w3 _ none) (fun r e => by cases e)
      generalize w3.alloc (.cells (dig H) 23) = w4 at hH4 hB4 hJ4 ⊢
      clear hB3 hJ3
      have hcell : ∀ j, j < 4 → w4.cell? ⟨w3.heap.size, j, none⟩ = some (.int .u8 (byteAt H j)) := fun j hj => (hH4.cell j).trans (dig_get H j (by omega))
      go_loop [6, 20] (fun a i => ∃ j : Nat, j ≤ 4 ∧ i = .int .i64 j ∧ a = .int .i64 (be H j)) (fun _ i => 4 - (intOf i).toNat)
      case atStart => exact ⟨0, by omega, rfl, rfl⟩
      case round =>
        obtain ⟨j, hj, rfl, rfl⟩ := hrel
        by_cases hjl : j < 4
        · have hc4 := hcell j hjl
          have hbl := be_lt H j
          have hbl2 : be H j < 16777216 := Nat.lt_of_lt_of_le hbl (by rcases j with _ | _ | _ | _ | j <;> first | decide | omega)
          have hor := or_byte (be H j) (H.getD j 0).toNat (by omega) (H.getD j 0).toNat_lt
          have hby : (H.getD j 0).toNat < 256 := (H.getD j 0).toNat_lt
          unfold byteAt at hc4
          have hor' : bits .or .i64 (((be H j : Nat) : Int) * 256) (wrap64 ((H[j]?.getD 0).toNat : Int)) = ((be H (j + 1) : Nat) : Int) := by
            rw [be, ← hor, ← List.getD_eq_getElem?_getD]
            congr 1
            unfold wrap64
            omega
          clear hcell hbl hor
          go_wp2_with fail
          exact ⟨⟨j + 1, by omega, by go_num, rfl⟩, by simp [intOf]; omega⟩
        · obtain rfl : j = 4 := by omega
          obtain ⟨fn, tmps, assign, body, hy, hR⟩ := HY.out (wordsOf d no k) ⟨wordOf d no k, wordOf_lt d no k⟩ w4 hJ4 (by rw [wordsOf_length]; exact hlt)
          have hwo : be H 4 = wordOf d no k := by rw [HH.out, HT.out]; rfl
          have hy' : (Instr.yield l #[.int .i64 ((be H 4 : Nat) : Int)]).run Tryd.prog w4 = .ok (.round l fn tmps assign body) w4 := by rw [hwo]; exact hy
          clear hy hwo
          clear hcell
          go_upto_region 10 with fail
          refine (wpIn_wide (n := n)).1 ?_
          gi_wp2
          refine ⟨fun h => (by cases h), hR.mono ?_⟩
          rintro e5 W5 (⟨rfl, hJ5, hk5⟩ | ⟨rfl, hJx5⟩)
          · gi_wp2
            go_wp2_with fail
            go_roundw
            case rel => exact ⟨k + 1, by omega, by go_num, by rw [wordsOf_succ]; exact hJ5, hB4.trans hk5⟩
            case measure => simp [intOf]; omega
          · gi_wp2
            go_wp2_with fail
            refine bodyPost_ret (results_none rfl _ _ _) rfl ?_
            exact ⟨⟨_, rfl⟩, .inr ⟨_, by rw [← wordsOf_succ]; exact wordsOf_prefix d no (k + 1) 64 (by omega), hJx5⟩⟩
    · obtain rfl : k = 64 := by omega
      go_wp2
      go_end0
      exact ⟨⟨_, rfl⟩, .inl ⟨_, rfl, hJs⟩⟩

/-- The iterator's contract, under which draw.Number walks its loop. -/
theorem all_stops (n : Nat) (bd bn n₀ : Nat) (d : List UInt8) (hd : d.length = 32) (no : Nat) (hno : no < 4611686018427387000) (hbd : bd < n₀) (hbn : bn < n₀) (td tn : TypeId) (w : World) (hn0 : n₀ ≤ w.heap.size)
    (hL : Laid w) (hL0 : 0 < n₀) (hL1 : 1 < n₀) (hD : Blk w bd td (dig d)) (hN : Blk w bn tn #[.int .i64 no]) :
    SeqStopsK Fence.wide n Tryd.prog 108 #[.pointer (some ⟨bd, 0, none⟩), .pointer (some ⟨bn, 0, none⟩)] (fun x : W32 => #[Value.int .i64 (x.1 : Int)]) (Below n₀) (fun xs => xs = wordsOf d no 64) (fun pre => pre <+: wordsOf d no 64) 64 w := fun l J Jx W hW hJ _ hY h0 =>
  callsIn_wide.2 (all1_in n l bd bn n₀ d hd no hno hbd hbn td tn J Jx W (Nat.le_trans hn0 hW.size) hJ hY (hL.below hW) hL0 hL1 (hD.below hW (by omega)) (hN.below hW (by omega)) h0)
set_option maxRecDepth 100000 in
set_option maxHeartbeats 1000000 in
theorem all_any (d : List UInt8) (no : Int) (w : World) :
    Calls Tryd.prog 71 #[.agg (dig d), .int .i64 no] w fun e w' => e = .returned (.func (.func 108) #[] #[.pointer (some ⟨w.heap.size, 0, none⟩), .pointer (some ⟨w.heap.size + 1, 0, none⟩)]) ∧ w' = (w.alloc (.cells (dig d) 23)).alloc (.cells #[.int .i64 no] 3) := by
  go_enter Tryd.func71, Tryd.ntmps71
  go_wp2
  go_ret
  exact ⟨rfl, rfl⟩
end Go.Proofs.YtibnikokgbfcdaaDoor

/- Walk: draw.Number. -/
namespace Go.Proofs.YtibnikokgbfcdaaDoor
open Go.RowKit Go.Shelf
attribute [local go_sem] Oper.semAt_some

/-- What the first of some words that is taken gives. -/
def firstOf (n : Int) : List W32 → Int
  | [] => 0
  | x :: l => if (takeOf (x.1 : Int) n).2.1 then (takeOf (x.1 : Int) n).1 else firstOf n l
theorem firstOf_none (n : Int) : ∀ l : List W32, (∀ x ∈ l, (takeOf (x.1 : Int) n).2.1 = false) → firstOf n l = 0
  | [], _ => rfl
  | x :: l, h => by rw [firstOf, if_neg (by rw [h x (by simp)]; decide)]; exact firstOf_none n l fun y hy => h y (by simp [hy])
theorem firstOf_at (n : Int) (x : W32) (hx : (takeOf (x.1 : Int) n).2.1 = true) (r : List W32) : ∀ l : List W32, (∀ y ∈ l, (takeOf (y.1 : Int) n).2.1 = false) → firstOf n (l ++ x :: r) = (takeOf (x.1 : Int) n).1
  | [], _ => by rw [List.nil_append, firstOf, if_pos hx]
  | y :: l, h => by rw [List.cons_append, firstOf, if_neg (by rw [h y (by simp)]; decide)]; exact firstOf_at n x hx r l fun z hz => h z (by simp [hz])
/-- What draw.Number returns. -/
def numberOf (d : List UInt8) (no n : Int) : Int × Int := if no < 0 ∨ 1099511627776 < no ∨ n < 1 ∨ 4096 < n then (0, 1) else (firstOf n (wordsOf d no.toNat 64), 0)
def numV (r : Int × Int) : Value := .tuple #[.int .i64 r.1, .int .i64 r.2]

theorem Blk.new' (w : World) {g : Nat} (t : TypeId) (cs : Array Value) (h : g = w.heap.size) : Blk (w.alloc (.cells cs t)) g t cs := by subst h; exact Blk.new w t cs
theorem two_set (W : World) (b0 b1 : Nat) (h : b0 ≠ b1) {u0 u1 : Value} (h0 : W.cell? ⟨b0, 0, none⟩ = some u0) (h1 : W.cell? ⟨b1, 0, none⟩ = some u1) (v0 v1 : Value) :
    ((W.setCell ⟨b0, 0, none⟩ v0).setCell ⟨b1, 0, none⟩ v1).cell? ⟨b0, 0, none⟩ = some v0 ∧ ((W.setCell ⟨b0, 0, none⟩ v0).setCell ⟨b1, 0, none⟩ v1).cell? ⟨b1, 0, none⟩ = some v1 := by
  have k1 : (W.setCell ⟨b0, 0, none⟩ v0).cell? ⟨b1, 0, none⟩ = some u1 := (World.cell?_setCell_other _ _ _ _ (fun e => h (Addr.mk.inj e).1)).trans h1
  exact ⟨(World.cell?_setCell_other _ _ _ _ (fun e => h (Addr.mk.inj e).1.symm)).trans (World.cell?_setCell_same' _ _ _ (by rw [h0]; rfl)), World.cell?_setCell_same' _ _ _ (by rw [k1]; rfl)⟩
set_option maxRecDepth 100000 in
set_option maxHeartbeats 4000000 in
theorem number_good (d : List UInt8) (hd : d.length = 32) (no n : Nat) (hno : no ≤ 1099511627776) (hn0 : 1 ≤ n) (hn1 : n ≤ 4096) (w : World) (hL : Laid w) :
    Calls Tryd.prog 29 #[.agg (dig d), .int .i64 no, .int .i64 n] w (Ret (numV (firstOf n (wordsOf d no 64), 0)) w) := by
  refine (callsIn_wide (n := 5)).1 ?_
  refine callsIn_of_wp_marks Tryd.func29 rfl trivial ?_ rfl
  simp only [Tryd.ntmps29, List.size_toArray, List.length_cons, List.length_nil, Nat.reduceAdd, Nat.reduceSub, Array.replicate_succ, Array.replicate_zero, List.push_toArray, List.append_toArray, List.nil_append, List.cons_append]
  refine wpIn_wide.2 ?_
  have hX0 : Blk ((((w.alloc (.cells (dig d) 23)).alloc (.cells #[.int .i64 n] 3)).alloc (.cells #[.int .i64 0] 3)).alloc (.cells #[.int .i64 0] 25)) w.heap.size 23 (dig d) := (((Blk.new w _ _).alloc _).alloc _).alloc _
  have HX0 := Lib.hid hX0
  have HL := Lib.hid hL
  clear hX0 hL
  go_wp2_with (refine load_dig rfl _ rfl d hd HX0.out rfl ?_)
  refine (all_any d no _).mono ?_
  rintro e W0 ⟨rfl, hW0⟩
  have hY : ∃ hs, hs = w.heap.size := ⟨_, rfl⟩
  have c1 : Blk W0 (w.heap.size + 1) 3 #[.int .i64 n] := by rw [hW0]; exact (((((Blk.new' _ _ _ (by simp)).alloc _).alloc _).alloc _).alloc _)
  have c2 : Blk W0 (w.heap.size + 1 + 1) 3 #[.int .i64 0] := by rw [hW0]; exact ((((Blk.new' _ _ _ (by simp)).alloc _).alloc _).alloc _)
  have c3 : Blk W0 (w.heap.size + 1 + 1 + 1) 25 #[.int .i64 0] := by rw [hW0]; exact (((Blk.new' _ _ _ (by simp)).alloc _).alloc _)
  have c4 : Blk W0 (w.heap.size + 4) 23 (dig d) := by rw [hW0]; exact ((Blk.new' _ _ _ (by simp)).alloc _)
  have c5 : Blk W0 (w.heap.size + 5) 3 #[.int .i64 no] := by rw [hW0]; exact (Blk.new' _ _ _ (by simp))
  have hsz : W0.heap.size = w.heap.size + 6 := by rw [hW0]; simp
  have hB0 : Below w.heap.size w W0 := by
    rw [hW0]
    exact ((((((Below.refl _ w).alloc (Nat.le_refl _) _).alloc (by simp) _).alloc (by simp; omega) _).alloc (by simp; omega) _).alloc (by simp; omega) _).alloc (by simp; omega) _
  simp only [World.size_alloc] at ⊢
  clear hW0 hY HX0
  go_wp2_with fail
  have k2 : W0.cell? ⟨w.heap.size + 1 + 1, 0, none⟩ = some (.int .i64 0) := c2.cell 0
  have k3 : W0.cell? ⟨w.heap.size + 1 + 1 + 1, 0, none⟩ = some (.int .i64 0) := c3.cell 0
  have f2 := c2.frozen 0
  have f3 := c3.frozen 0
  have hL1 := HL.out.below hB0
  refine (wpIn_wide (n := 5)).1 ?_
  refine wpIn_rangeFunc_ownF rfl (by omega) (gf := 108) (lb := #[.pointer (some ⟨w.heap.size + 4, 0, none⟩), .pointer (some ⟨w.heap.size + 5, 0, none⟩)]) rfl trivial (enters_of Tryd.func108 (by kernel_rfl) rfl)
    (all_stops 4 (w.heap.size + 4) (w.heap.size + 5) W0.heap.size d hd no (by omega) (by omega) (by omega) _ _ W0 (Nat.le_refl _) hL1 hL1.lt0 hL1.lt1 c4 c5) belowK_t (belowK_b (Nat.le_refl _)) (Below.refl _ _) (fun _ => rfl)
    (fun pre W => ((∀ y ∈ pre, (takeOf (y.1 : Int) n).2.1 = false) ∧ W.cell? ⟨w.heap.size + 1, 0, none⟩ = some (.int .i64 n) ∧ W.cell? ⟨w.heap.size + 1 + 1, 0, none⟩ = some (.int .i64 0) ∧ W.frozen? ⟨w.heap.size + 1 + 1, 0, none⟩ = false ∧ W.cell? ⟨w.heap.size + 1 + 1 + 1, 0, none⟩ = some (.int .i64 0) ∧ W.frozen? ⟨w.heap.size + 1 + 1 + 1, 0, none⟩ = false) ∧ Below w.heap.size w W)
    (fun c pre W => (c = .ret ∧ (∃ (x : W32) (q : List W32), pre = q ++ [x] ∧ (∀ y ∈ q, (takeOf (y.1 : Int) n).2.1 = false) ∧ (takeOf (x.1 : Int) n).2.1 = true ∧ W.cell? ⟨w.heap.size + 1 + 1, 0, none⟩ = some (.int .i64 (takeOf (x.1 : Int) n).1)) ∧ W.cell? ⟨w.heap.size + 1 + 1 + 1, 0, none⟩ = some (.int .i64 0)) ∧ Below w.heap.size w W)
    (OwnFrom.and (Own.from (fun s A B row hs hg hr => ⟨hs.1, cell_kept hs.2.1 hg hr, cell_kept hs.2.2.1 hg hr, (frozen_kept hs.2.2.1 hg hr).trans hs.2.2.2.1, cell_kept hs.2.2.2.2.1 hg hr, (frozen_kept hs.2.2.2.2.1 hg hr).trans hs.2.2.2.2.2⟩) _) (ownFrom_below (Nat.le_refl _) (by omega)))
    (fun c => OwnFrom.and (Own.from (fun s A B row hs hg hr => by
      obtain ⟨h1, ⟨x, q, h2, h3, h4, h5⟩, h6⟩ := hs
      exact ⟨h1, ⟨x, q, h2, h3, h4, cell_kept h5 hg hr⟩, cell_kept h6 hg hr⟩) _) (ownFrom_below (Nat.le_refl _) (by omega)))
    ⟨⟨by simp, c1.cell 0, k2, f2, k3, f3⟩, hB0⟩
    ?a1 ?assign ?body ?done ?stop
  case assign =>
    intro l x W K hK
    gi_wp2
    exact hK
  case body =>
    rintro l pre x W ⟨⟨hp, h1, h2, h3, h4, h5⟩, hB⟩ _
    have hx := x.2
    obtain ⟨⟨v, ok, er⟩, hr⟩ : ∃ r, r = takeOf (x.1 : Int) n := ⟨_, rfl⟩
    have HR := Lib.hid hr
    have HT := fun W' => take_any (x.1 : Int) n (by omega) (by omega) (by omega) (by omega) W'
    rw [← hr] at HT
    have HT' := Lib.hid HT
    have HP := Lib.hid hp
    clear HT hr hp
    gi_wp2_with fail
    refine ⟨trivial, (CallsIn.inRound l (callsIn_wide.2 (HT'.out W))).mono ?_⟩
    rintro e W1 ⟨rfl, rfl⟩
    simp only [takeV]
    cases ok
    · gi_wp2
      exact ⟨KeepsOthers.refl _, Below.refl _ _, ⟨fun y hy => (List.mem_append.1 hy).elim (HP.out y) (fun e => by
        obtain rfl : y = x := by simpa using e
        rw [← HR.out]), h1, h2, h3, h4, h5⟩, hB⟩
    · gi_wp2
      have hc := two_set W _ _ (by omega) h2 h4 (.int .i64 v) (.int .i64 0)
      exact ⟨(KeepsOthers.setCell _ _ _).trans (KeepsOthers.setCell _ _ _), ⟨rfl, ⟨x, pre, rfl, HP.out, by rw [← HR.out], by rw [← HR.out]; exact hc.1⟩, hc.2⟩, (hB.setCell (p := ⟨w.heap.size + 1 + 1, 0, none⟩) (by show _ ≤ w.heap.size + 1 + 1; omega) _).setCell (p := ⟨w.heap.size + 1 + 1 + 1, 0, none⟩) (by show _ ≤ w.heap.size + 1 + 1 + 1; omega) _⟩
  case done =>
    rintro D ys W hD rfl ⟨⟨hne, _, h2, h3, h4, h5⟩, hB⟩ hK
    have hc := two_set W _ _ (by omega) h2 h4 (.int .i64 0) (.int .i64 0)
    go_wp2
    have hK' := ((KeepsOthers.setCell W ⟨w.heap.size + 1 + 1, 0, none⟩ (.int .i64 0)).trans (KeepsOthers.setCell _ ⟨w.heap.size + 1 + 1 + 1, 0, none⟩ (.int .i64 0))).same D _ hK rfl
    refine ⟨by simp, .inl ⟨_, _, rfl, run_takeDeferred hK', ?_⟩⟩
    have hc5 := cell_kept hc.1 (grownBy_putObj' _ D (.deferred none)) (fun r e => by cases e; exact ⟨_, hK', rfl⟩)
    have hc6 := cell_kept hc.2 (grownBy_putObj' _ D (.deferred none)) (fun r e => by cases e; exact ⟨_, hK', rfl⟩)
    refine ⟨numV (firstOf n (wordsOf d no 64), 0), ?_, rfl, ((hB.setCell (p := ⟨w.heap.size + 1 + 1, 0, none⟩) (by show _ ≤ w.heap.size + 1 + 1; omega) _).setCell (p := ⟨w.heap.size + 1 + 1 + 1, 0, none⟩) (by show _ ≤ w.heap.size + 1 + 1 + 1; omega) _).trans (belowK_b (w := w) (Nat.le_refl _) _ D _ _ (by omega) hK' rfl rfl)⟩
    rw [firstOf_none n _ hne]
    simp [results, Tryd.f29, go_sem, hc5, hc6, numV]
  case stop =>
    rintro D c pre W hD hpre ⟨⟨rfl, ⟨x, q, rfl, hq, hx, h2⟩, h4⟩, hB⟩ hK
    gi_wp2
    refine ⟨by simp, .inl ⟨_, _, rfl, run_takeDeferred hK, ?_⟩⟩
    have hc5 := cell_kept h2 (grownBy_putObj' _ D (.deferred none)) (fun r e => by cases e; exact ⟨_, hK, rfl⟩)
    have hc6 := cell_kept h4 (grownBy_putObj' _ D (.deferred none)) (fun r e => by cases e; exact ⟨_, hK, rfl⟩)
    obtain ⟨r, hr⟩ := hpre
    refine ⟨numV (firstOf n (wordsOf d no 64), 0), ?_, rfl, hB.trans (belowK_b (w := w) (Nat.le_refl _) W D _ _ (by omega) hK rfl rfl)⟩
    rw [← hr, List.append_assoc, List.singleton_append, firstOf_at n x hx r q hq]
    simp [results, Tryd.f29, go_sem, hc5, hc6, numV]

set_option maxRecDepth 100000 in
set_option maxHeartbeats 1000000 in
theorem number_bad (d : List UInt8) (no n : Int) (h : no < 0 ∨ 1099511627776 < no ∨ n < 1 ∨ 4096 < n) (w : World) :
    Calls Tryd.prog 29 #[.agg (dig d), .int .i64 no, .int .i64 n] w (Ret (numV (0, 1)) w) := by
  by_cases c1 : no < 0
  · clear h
    go_enter Tryd.func29, Tryd.ntmps29
    go_wp2
    refine bodyPost_ret (v := numV (0, 1)) ?_ rfl ⟨rfl, ((((Below.refl _ w).alloc (Nat.le_refl _) _).alloc (by simp) _).alloc (by simp; omega) _).alloc (by simp; omega) _⟩
    simp [results, Tryd.f29, go_sem, numV]
  by_cases c2 : 1099511627776 < no
  · clear h
    go_enter Tryd.func29, Tryd.ntmps29
    go_wp2
    refine bodyPost_ret (v := numV (0, 1)) ?_ rfl ⟨rfl, ((((Below.refl _ w).alloc (Nat.le_refl _) _).alloc (by simp) _).alloc (by simp; omega) _).alloc (by simp; omega) _⟩
    simp [results, Tryd.f29, go_sem, numV]
  by_cases c3 : n < 1
  · clear h
    go_enter Tryd.func29, Tryd.ntmps29
    go_wp2
    refine bodyPost_ret (v := numV (0, 1)) ?_ rfl ⟨rfl, ((((Below.refl _ w).alloc (Nat.le_refl _) _).alloc (by simp) _).alloc (by simp; omega) _).alloc (by simp; omega) _⟩
    simp [results, Tryd.f29, go_sem, numV]
  · have c4 : 4096 < n := by omega
    clear h
    go_enter Tryd.func29, Tryd.ntmps29
    go_wp2
    refine bodyPost_ret (v := numV (0, 1)) ?_ rfl ⟨rfl, ((((Below.refl _ w).alloc (Nat.le_refl _) _).alloc (by simp) _).alloc (by simp; omega) _).alloc (by simp; omega) _⟩
    simp [results, Tryd.f29, go_sem, numV]

theorem number_any (d : List UInt8) (hd : d.length = 32) (no n : Int) (w : World) (hL : Laid w) :
    Calls Tryd.prog 29 #[.agg (dig d), .int .i64 no, .int .i64 n] w (Ret (numV (numberOf d no n)) w) := by
  by_cases h : no < 0 ∨ 1099511627776 < no ∨ n < 1 ∨ 4096 < n
  · rw [numberOf, if_pos h]
    exact number_bad d no n h w
  · rw [numberOf, if_neg h]
    obtain ⟨a, rfl⟩ : ∃ a : Nat, no = a := ⟨no.toNat, by omega⟩
    obtain ⟨b, rfl⟩ : ∃ b : Nat, n = b := ⟨n.toNat, by omega⟩
    exact number_good d hd a b (by omega) (by omega) (by omega) w hL
end Go.Proofs.YtibnikokgbfcdaaDoor

/- Walk: draw.Order. -/
namespace Go.Proofs.YtibnikokgbfcdaaDoor
open Go.RowKit

theorem takeOf_range (word n : Int) (hn : 1 ≤ n) : 0 ≤ (takeOf word n).1 ∧ (takeOf word n).1 < n := by
  have h1 : 0 ≤ word % n := Int.emod_nonneg _ (by omega)
  have h2 : word % n < n := Int.emod_lt_of_pos _ (by omega)
  unfold takeOf
  split
  · exact ⟨by simp, by simp; omega⟩
  · split
    · exact ⟨by simp, by simp; omega⟩
    · exact ⟨h1, h2⟩
theorem firstOf_range (n : Int) (hn : 1 ≤ n) : ∀ l, 0 ≤ firstOf n l ∧ firstOf n l < n
  | [] => ⟨by simp [firstOf], by simp [firstOf]; omega⟩
  | x :: l => by
    rw [firstOf]
    split
    · exact takeOf_range _ n hn
    · exact firstOf_range n hn l
theorem numberOf_range (d : List UInt8) (no n : Int) (hn : 1 ≤ n) : 0 ≤ (numberOf d no n).1 ∧ (numberOf d no n).1 < n := by
  rw [numberOf]
  split
  · exact ⟨by simp, by simp; omega⟩
  · exact firstOf_range n hn _
/-- The number that is drawn for place i of an order. -/
def pick (d : List UInt8) (i : Nat) : Nat := (numberOf d i ((i : Int) + 1)).1.toNat
theorem pick_le (d : List UInt8) (i : Nat) : pick d i ≤ i := by
  have := numberOf_range d i ((i : Int) + 1) (by omega)
  unfold pick
  omega
theorem pick_cast (d : List UInt8) (i : Nat) : ((pick d i : Nat) : Int) = (numberOf d i ((i : Int) + 1)).1 := by
  have := numberOf_range d i ((i : Int) + 1) (by omega)
  unfold pick
  omega
/-- What draw.Order returns. -/
def orderOf (d : List UInt8) (n : Nat) : List Int := shuf (pick d) (n - 1) (iota n)
theorem orderOf_length (d : List UInt8) (n : Nat) : (orderOf d n).length = n := by rw [orderOf, shuf_length, iota_length]

def OrderPost (d : List UInt8) (n : Nat) (w : World) (e : Ending) (w' : World) : Prop := ∃ v, e = .returned (.tuple #[v, .int .i64 0]) ∧ IOwn w' w.heap.size v (orderOf d n) ∧ Below w.heap.size w w'
def BadPost (w : World) (e : Ending) (w' : World) : Prop := e = .returned (.tuple #[.slice none 0 0, .int .i64 1]) ∧ Below w.heap.size w w'
def ORel (w : World) (d : List UInt8) (n : Nat) (x v : Value) (wr : World) : Prop :=
  ∃ j : Nat, j ≤ n ∧ x = .int .i64 j ∧ IOwn wr (w.heap.size + 1) v (iota j) ∧ Blk wr w.heap.size 23 (dig d) ∧ Below w.heap.size w wr

def ORel2 (w : World) (d : List UInt8) (n : Nat) (v x : Value) (wr : World) : Prop :=
  ∃ (i : Nat) (L : List Int), (x = .int .i64 i ∨ (i = 0 ∧ x = .int .i64 (-1))) ∧ (i < n ∨ i = 0) ∧ IOwn wr (w.heap.size + 1) v L ∧ L.length = n ∧ shuf (pick d) i L = orderOf d n ∧ Blk wr w.heap.size 23 (dig d) ∧ Below w.heap.size w wr
theorem ORel2.start {w : World} {d : List UInt8} {n : Nat} {v : Value} {wr : World} (hown : IOwn wr (w.heap.size + 1) v (iota n)) (hD : Blk wr w.heap.size 23 (dig d)) (hB : Below w.heap.size w wr) : ORel2 w d n v (.int .i64 ((n : Int) - 1)) wr := by
  rcases Nat.eq_zero_or_pos n with rfl | h
  · exact ⟨0, iota 0, .inr ⟨rfl, rfl⟩, .inr rfl, hown, rfl, rfl, hD, hB⟩
  · exact ⟨n - 1, iota n, .inl (by congr 1; omega), .inl (by omega), hown, iota_length n, rfl, hD, hB⟩
theorem ORel2.drew {w wr : World} {d : List UInt8} {n : Nat} {v x : Value} (h : ORel2 w d n v x wr) : ORel2 w d n v x wr.drew := by
  obtain ⟨i, L, h1, h2, h3, h4, h5, h6, h7⟩ := h
  exact ⟨i, L, h1, h2, own_drew h3, h4, h5, h6, h7.drew⟩
theorem IOwn.row {w : World} {base : Nat} {v : Value} {l : List Int} {n : Nat} (h : IOwn w base v l) (hn : l.length = n) (h0 : 0 < n) : ∃ g c, v = .slice (some ⟨g, 0, none⟩) n c ∧ n ≤ c ∧ w.ownsRow base 3 1 (.slice (some ⟨g, 0, none⟩) n c) n (icells l) := by
  subst hn
  rcases h.2 with ⟨_, h1⟩ | ⟨g, cap, cur, rfl, _, _, hnc, _, _, _⟩
  · omega
  · exact ⟨g, cap, rfl, hnc, h⟩
theorem ORel2.swap {w wr : World} {d : List UInt8} {n i g c : Nat} {L : List Int} (hrow : wr.ownsRow (w.heap.size + 1) 3 1 (.slice (some ⟨g, 0, none⟩) n c) n (icells L)) (hLn : L.length = n) (hi : 0 < i) (hin : i < n) (hs : shuf (pick d) i L = orderOf d n)
    (hD : Blk wr w.heap.size 23 (dig d)) (hB : Below w.heap.size w wr) (x : Value) (hx : x = .int .i64 ((i : Int) - 1)) (k : Nat) (hk : k = pick d i) (u v : Value) (hu : u = .int .i64 (L.getD k 0)) (hv : v = .int .i64 (L.getD i 0)) :
    ORel2 w d n (.slice (some ⟨g, 0, none⟩) n c) x ((wr.setCell ⟨g, i, none⟩ u).setCell ⟨g, k, none⟩ v) := by
  subst hk hu hv hx hLn
  have hown : IOwn wr (w.heap.size + 1) (.slice (some ⟨g, 0, none⟩) L.length c) L := hrow
  obtain ⟨h1, g1⟩ := hown.swap i (pick d i)
  obtain ⟨i, rfl⟩ : ∃ j, i = j + 1 := ⟨i - 1, by omega⟩
  have hlt := World.ownsRow.lt hown g rfl
  refine ⟨i, swapL L (i + 1) (pick d (i + 1)), .inl (by congr 1; omega), .inl (by omega), h1, swapL_length _ _ _, hs, hD.grown g1.1 (fun e => by have : w.heap.size = g := Option.some.inj e; omega), hB.trans (g1.below hB.size fun k e => by have : g = k := Option.some.inj e; omega)⟩

set_option maxRecDepth 100000 in
set_option maxHeartbeats 4000000 in
theorem order_good (d : List UInt8) (hd : d.length = 32) (n : Nat) (hn : n ≤ 4096) (w : World) (hL : Laid w) :
    Calls Tryd.prog 32 #[.agg (dig d), .int .i64 n] w (OrderPost d n w) := by
  go_enter Tryd.func32, Tryd.ntmps32
  go_wp2_with fail
  go_loopw [4, 17] (fun v x wr => ORel w d n x v wr) (fun _ x _ => n - (intOf x).toNat)
  case atStart => exact ⟨0, by omega, rfl, IOwn.nil _ _, Blk.new _ _ _, (Below.refl _ w).alloc (Nat.le_refl _) _⟩
  case round =>
    obtain ⟨j, hj, rfl, hown, hD, hB⟩ := hrel
    have hlt0 := hD.lt
    by_cases hlt : j < n
    · have hO1 := hown.alloc (.cells #[.int .i64 j] 3)
      have hlen : (iota j).length = j := iota_length j
      go_wp2_with (at_builtin; refine app_int rfl _ _ rfl (w.heap.size + 1) u4 _ rfl hO1 j (Blk.new _ _ _) rfl (by omega) (by simp; omega) ?_; intro v2 w2 hown2 hg2)
      go_roundw
      case rel =>
        have hg := hg2.alloc_first
        refine ⟨j + 1, by omega, by go_num, by rw [iota_succ]; exact hown2, hD.grown hg.1 (fun e => by have := (World.ownsRow.lt hown _ e.symm).1; omega), hB.trans (hg.below hB.size fun k hk => by have := (World.ownsRow.lt hown _ hk).1; omega)⟩
      case measure => simp [intOf]; omega
    · obtain rfl : j = n := by omega
      go_wp2_with fail
      have hst := ORel2.start hown hD hB
      have HL := Lib.hid hL
      clear hown hD hB hlt hlt0 hL
      go_loopw [7] (fun x wr => ORel2 w d j u4 x wr) (fun x _ => (intOf x).toNat)
      case atStart => exact hst
      case round =>
        clear hst
        obtain ⟨i, L, hx, hin, hown, hLn, hs, hD, hB⟩ := hrel
        by_cases hi : 0 < i
        · obtain rfl : u7 = .int .i64 i := by
            rcases hx with h | h
            · exact h
            · omega
          have hij : i < j := by omega
          have hkle := pick_le d i
          have hpc := pick_cast d i
          have hNN := Lib.hid (fun W hW => number_any d hd i ((i : Int) + 1) W hW)
          clear hx hin
          go_wp2_with (refine load_dig rfl _ rfl d hd hD rfl ?_)
          obtain ⟨er, her⟩ : ∃ er, numV (numberOf d i ((i : Int) + 1)) = .tuple #[.int .i64 ((pick d i : Nat) : Int), .int .i64 er] := ⟨_, by rw [hpc]; rfl⟩
          rw [her] at hNN
          obtain ⟨k, hk⟩ : ∃ k, k = pick d i := ⟨_, rfl⟩
          rw [← hk] at hNN hkle
          have HK := Lib.hid hk
          clear her hk hpc
          refine (hNN.out wr (HL.out.below hB)).mono ?_
          rintro e w2 ⟨rfl, hb2⟩
          have hown2 := hown.below hb2
          have hD2 := hD.below hb2 hD.lt
          have hB2 := hB.trans (hb2.mono hB.size)
          clear hown hD hB hb2 hNN
          obtain ⟨g, c, rfl, hlc, hrow⟩ := hown2.row hLn (by omega)
          clear hown2
          have HS := Lib.hid (fun x hx u v hu hv => ORel2.swap hrow hLn hi hij hs hD2 hB2 x hx k HK.out u v hu hv)
          have ci : w2.cell? ⟨g, i, none⟩ = some (.int .i64 (L.getD i 0)) := (World.ownsRow.cellAt hrow i (by omega)).trans (icells_get L i (by omega))
          have ck : w2.cell? ⟨g, k, none⟩ = some (.int .i64 (L.getD k 0)) := (World.ownsRow.cellAt hrow k (by omega)).trans (icells_get L k (by omega))
          have fi := World.ownsRow.frozenAt hrow i
          have fk := World.ownsRow.frozenAt hrow k
          clear hrow hD2 hB2
          obtain ⟨li, hli⟩ : ∃ li, li = L.getD i 0 := ⟨_, rfl⟩
          obtain ⟨lk, hlk⟩ : ∃ lk, lk = L.getD k 0 := ⟨_, rfl⟩
          rw [← hli] at ci
          rw [← hlk] at ck
          have HLI := Lib.hid hli
          have HLK := Lib.hid hlk
          clear hli hlk
          go_wp2_with fail
          have hkj : k < j := by omega
          obtain ⟨_, c15⟩ := cell?_setCell_some (p := ⟨g, i, none⟩) (x := .int .i64 lk) ck
          go_region
          clear ci ck fi fk c15
          go_wp2_with fail
          go_roundw
          case rel => exact (HS.out _ rfl (.int .i64 lk) (.int .i64 li) (by rw [HLK.out]) (by rw [HLI.out])).drew
          case measure => simp [intOf]; omega
        · obtain ⟨A, c, rfl, -⟩ := hown.shape
          have ho : i = 0 := by omega
          subst ho
          rcases hx with rfl | ⟨-, rfl⟩
          all_goals
            go_wp2
            go_ret2
            refine ⟨_, rfl, ?_, hB⟩
            have ho2 : L = orderOf d j := hs
            rw [← ho2]
            have h4 := own_weaken hown (Nat.le_succ _)
            rw [hLn] at h4
            show World.ownsRow wr w.heap.size 3 1 _ L.length (icells L)
            rw [hLn]
            exact h4

set_option maxRecDepth 100000 in
set_option maxHeartbeats 1000000 in
theorem order_bad (d : List UInt8) (n : Int) (h : n < 0 ∨ 4096 < n) (w : World) : Calls Tryd.prog 32 #[.agg (dig d), .int .i64 n] w (BadPost w) := by
  by_cases c1 : n < 0
  · clear h
    go_enter Tryd.func32, Tryd.ntmps32
    go_wp2
    go_ret2
    exact ⟨rfl, (Below.refl _ w).alloc (Nat.le_refl _) _⟩
  · have c2 : 4096 < n := by omega
    clear h
    go_enter Tryd.func32, Tryd.ntmps32
    go_wp2
    go_ret2
    exact ⟨rfl, (Below.refl _ w).alloc (Nat.le_refl _) _⟩
end Go.Proofs.YtibnikokgbfcdaaDoor

/- Walks: takes, SameInts, and the sanity look of podiumlaw32. -/
namespace Go.Proofs.YtibnikokgbfcdaaDoor
open Go.RowKit

set_option maxRecDepth 100000 in
set_option maxHeartbeats 1000000 in
theorem takes_ok (word n want : Int) (h0 : -9223372036854775808 ≤ word) (h1 : word < 9223372036854775808) (h2 : -9223372036854775808 ≤ n) (h3 : n < 9223372036854775808) (h : takeOf word n = (want, true, 0)) (w : World) :
    Calls Tryd.prog 70 #[.int .i64 word, .int .i64 n, .int .i64 want] w (fun e w' => e = .returned (.bool true) ∧ w = w') := by
  have hT := take_any word n h0 h1 h2 h3 w
  rw [h] at hT
  have HT := Lib.hid hT
  clear hT h
  go_enter Tryd.func70, Tryd.ntmps70
  go_wp2_with fail
  refine HT.out.mono ?_
  rintro e w' ⟨rfl, rfl⟩
  simp only [takeV]
  go_wp2
  go_ret
  exact ⟨rfl, rfl⟩

set_option maxRecDepth 100000 in
set_option maxHeartbeats 1000000 in
theorem sameInts_any (A B : Option Addr) (l m : List Int) (c c2 : Nat) (w : World) (hA : Rd w w.heap.size A l.length (fun k => .int .i64 (l.getD k 0))) (hB : Rd w w.heap.size B m.length (fun k => .int .i64 (m.getD k 0)))
    (hl : l.length ≤ 4611686018427387903) : Calls Tryd.prog 34 #[.slice A l.length c, .slice B m.length c2] w (Ret (.bool (decide (l = m))) w) := by
  obtain ⟨n, hn⟩ : ∃ n, n = l.length := ⟨_, rfl⟩
  obtain ⟨n2, hn2⟩ : ∃ n2, n2 = m.length := ⟨_, rfl⟩
  rw [← hn, ← hn2]
  have HN := Lib.hid hn
  have HN2 := Lib.hid hn2
  have HA := Lib.hid hA
  have HB := Lib.hid hB
  rw [← hn] at hl
  clear hA hB hn hn2
  by_cases h : n = n2
  · subst h
    go_enter Tryd.func34, Tryd.ntmps34
    go_wp2_with fail
    go_loopw [5] (fun x wr => ∃ j : Nat, j ≤ n ∧ x = .int .i64 j ∧ (∀ i, i < j → l.getD i 0 = m.getD i 0) ∧ Below w.heap.size w wr) (fun x _ => n - (intOf x).toNat)
    case atStart => exact ⟨0, by omega, rfl, fun i hi => absurd hi (by omega), Below.refl _ _⟩
    case round =>
      obtain ⟨j, hj, rfl, hs, hBw⟩ := hrel
      have HS := Lib.hid hs
      clear hs
      by_cases hlt : j < n
      · obtain ⟨b, off, rfl, _, hc⟩ := (HA.out.below hBw).at_ (k := j) (by rw [← HN.out]; exact hlt)
        obtain ⟨b2, off2, rfl, _, hc2⟩ := (HB.out.below hBw).at_ (k := j) (by rw [← HN2.out]; exact hlt)
        obtain ⟨x, hx⟩ : ∃ x, x = l.getD j 0 := ⟨_, rfl⟩
        obtain ⟨y, hy⟩ : ∃ y, y = m.getD j 0 := ⟨_, rfl⟩
        rw [← hx] at hc
        rw [← hy] at hc2
        have HX := Lib.hid hx
        have HY := Lib.hid hy
        clear hx hy
        by_cases hxy : x = y
        · subst hxy
          go_wp2_with fail
          go_quiet (fail)
          go_wp2
          go_roundw
          case rel => exact ⟨j + 1, by omega, by go_num, fun i hi => by
            rcases Nat.lt_or_ge i j with h | h
            · exact HS.out i h
            · obtain rfl : i = j := by omega
              rw [← HX.out, ← HY.out], below_drewN hBw _⟩
          case measure => simp [intOf]; omega
        · go_wp2_with fail
          go_quiet (fail)
          go_wp2
          go_ret
          refine ⟨?_, below_drewN hBw _⟩
          rw [decide_eq_false (fun e => hxy (by rw [HX.out, HY.out, e]))]
          rfl
      · go_wp2
        go_ret
        refine ⟨?_, hBw⟩
        have h1 := HN.out
        have h2 := HN2.out
        have key : l = m := List.ext_getElem (by omega) fun i h3 h4 => by
          have := HS.out i (by omega)
          rwa [List.getD_eq_getElem?_getD, List.getD_eq_getElem?_getD, List.getElem?_eq_getElem h3, List.getElem?_eq_getElem h4] at this
        rw [decide_eq_true key]
        rfl
  · have hne : ¬ (l = m) := fun e => h (by rw [HN.out, HN2.out, e])
    go_enter Tryd.func34, Tryd.ntmps34
    go_wp2
    go_ret
    exact ⟨by rw [decide_eq_false hne]; rfl, Below.refl _ _⟩

def zd : List UInt8 := List.replicate 32 0
theorem zd_eq : Value.agg (dig zd) = .agg #[.int .u8 0, .int .u8 0, .int .u8 0, .int .u8 0, .int .u8 0, .int .u8 0, .int .u8 0, .int .u8 0, .int .u8 0, .int .u8 0, .int .u8 0, .int .u8 0, .int .u8 0, .int .u8 0, .int .u8 0, .int .u8 0, .int .u8 0, .int .u8 0, .int .u8 0, .int .u8 0, .int .u8 0, .int .u8 0, .int .u8 0, .int .u8 0, .int .u8 0, .int .u8 0, .int .u8 0, .int .u8 0, .int .u8 0, .int .u8 0, .int .u8 0, .int .u8 0] := rfl
theorem take_is (word n v : Int) (ok : Bool) (er : Int) (h : takeOf word n = (v, ok, er)) (h0 : -9223372036854775808 ≤ word) (h1 : word < 9223372036854775808) (h2 : -9223372036854775808 ≤ n) (h3 : n < 9223372036854775808) (w : World) :
    Calls Tryd.prog 27 #[.int .i64 word, .int .i64 n] w (fun e w' => e = .returned (.tuple #[.int .i64 v, .bool ok, .int .i64 er]) ∧ w = w') := by
  have hT := take_any word n h0 h1 h2 h3 w
  rw [h] at hT
  exact hT
def ViewPost (l : List Int) (n : Nat) (w : World) (e : Ending) (w' : World) : Prop :=
  ∃ A c, e = .returned (.tuple #[.slice A n c, .int .i64 0]) ∧ n ≤ c ∧ c ≤ 9223372036854775807 ∧ Rd w' w'.heap.size A n (fun k => .int .i64 (l.getD k 0)) ∧ Below w.heap.size w w'
theorem order_view (d : List UInt8) (hd : d.length = 32) (n : Nat) (hn : n ≤ 4096) (w : World) (hL : Laid w) : Calls Tryd.prog 32 #[.agg (dig d), .int .i64 n] w (ViewPost (orderOf d n) n w) := by
  refine (order_good d hd n hn w hL).mono ?_
  rintro e w' ⟨v, rfl, hown, hb⟩
  obtain ⟨A, c, rfl, h1, h2, h3⟩ := hown.shape
  rw [orderOf_length] at h1 h3 ⊢
  exact ⟨A, c, rfl, h1, h2, h3, hb⟩
theorem order_bad2 (d : List UInt8) (n : Int) (h : n < 0 ∨ 4096 < n) (w : World) : Calls Tryd.prog 32 #[.agg (dig d), .int .i64 n] w (Ret (.tuple #[.slice none 0 0, .int .i64 1]) w) := order_bad d n h w

set_option maxRecDepth 100000 in
set_option maxHeartbeats 8000000 in
theorem sane32_ok (w : World) (hL : Laid w) : Calls Tryd.prog 26 #[] w (Ret (.bool true) w) := by
  have T1 := Lib.hid (fun W => take_is 4294967296 3 0 false 1 (by decide) (by decide) (by decide) (by decide) (by decide) W)
  have T2 := Lib.hid (fun W => take_is 4294967295 3 0 false 0 (by decide) (by decide) (by decide) (by decide) (by decide) W)
  have T3 := Lib.hid (fun W => take_is 0 0 0 false 1 (by decide) (by decide) (by decide) (by decide) (by decide) W)
  have O0 := Lib.hid (fun W h => order_view zd rfl 0 (by decide) W h)
  have O1 := Lib.hid (fun W h => order_view zd rfl 1 (by decide) W h)
  have O2 := Lib.hid (fun W h => order_view zd rfl 2 (by decide) W h)
  have OB := Lib.hid (fun W => order_bad2 zd (-1) (.inl (by decide)) W)
  have NB := Lib.hid (fun W => number_bad zd (-1) 1 (.inl (by decide)) W)
  have K1 := Lib.hid (fun W => takes_ok 7 1 0 (by decide) (by decide) (by decide) (by decide) (by decide) W)
  have K2 := Lib.hid (fun W => takes_ok 7 4096 7 (by decide) (by decide) (by decide) (by decide) (by decide) W)
  have K3 := Lib.hid (fun W => takes_ok 4294967295 4096 4095 (by decide) (by decide) (by decide) (by decide) (by decide) W)
  have K4 := Lib.hid (fun W => takes_ok 4294967294 3 2 (by decide) (by decide) (by decide) (by decide) (by decide) W)
  rw [zd_eq] at O0 O1 O2 OB NB
  have HL := Lib.hid hL
  clear hL
  go_enter Tryd.func26, Tryd.ntmps26
  go_wp2_with fail
  refine (T1.out _).mono ?_
  rintro e w1 ⟨rfl, rfl⟩
  go_wp2_with fail
  refine (T2.out _).mono ?_
  rintro e w1 ⟨rfl, rfl⟩
  go_wp2_with fail
  refine (T3.out _).mono ?_
  rintro e w1 ⟨rfl, rfl⟩
  go_wp2_with fail
  refine (O0.out _ HL.out).mono ?_
  rintro e w1 ⟨A0, c0, rfl, -, -, -, hb1⟩
  have hL1 := HL.out.below hb1
  go_wp2_with fail
  refine (O1.out _ hL1).mono ?_
  rintro e w2 ⟨A1, c1, rfl, hc1, hc1', hr1, hb2⟩
  have hB2 := hb1.trans (hb2.mono hb1.size)
  clear hb1 hL1 hb2
  go_wp2_with fail
  refine (OB.out _).mono ?_
  rintro e w3 ⟨rfl, hb3⟩
  have hr3 := (hr1.below hb3).more hb3.size
  have hB3 := hB2.trans (hb3.mono hB2.size)
  clear hB2 hb3 hr1
  go_wp2_with fail
  refine (NB.out _).mono ?_
  rintro e w4 ⟨rfl, hb4⟩
  have hr4 := (hr3.below hb4).more hb4.size
  have hB4 := hB3.trans (hb4.mono hB3.size)
  clear hB3 hb4 hr3
  simp only [numV]
  go_wp2_with fail
  refine (O2.out _ (HL.out.below hB4)).mono ?_
  rintro e w5 ⟨A2, c2, rfl, -, -, -, hb5⟩
  have hr5 := (hr4.below hb5).more hb5.size
  have hB5 := hB4.trans (hb5.mono hB4.size)
  clear hB4 hb5 hr4
  go_wp2_with fail
  have hX : Blk (w5.alloc (.cells #[.int .i64 0] 3)) w5.heap.size 3 #[.int .i64 0] := Blk.new _ _ _
  have hB6 : Below w.heap.size w (w5.alloc (.cells #[.int .i64 0] 3)) := hB5.alloc hB5.size _
  have hr6 := (hr5.alloc (Nat.le_refl _) (.cells #[.int .i64 0] 3)).more (B' := (w5.alloc (.cells #[.int .i64 0] 3)).heap.size) (by simp)
  generalize w5.alloc (.cells #[.int .i64 0] 3) = w6 at hX hB6 hr6 ⊢
  clear hr5 hB5
  have hS := sameInts_any A1 (some ⟨w5.heap.size, 0, none⟩) (orderOf zd 1) [0] c1 1 w6 hr6 (Rd.of_blk hX hX.lt fun k hk => by
    rcases k with _ | k
    · rfl
    · exact absurd hk (by simp)) (by decide)
  rw [show decide (orderOf zd 1 = [0]) = true from by decide] at hS
  have hS' : Calls Tryd.prog 34 #[.slice A1 1 c1, .slice (some ⟨w5.heap.size, 0, none⟩) 1 1] w6 (Ret (.bool true) w6) := hS
  refine hS'.mono ?_
  rintro e w7 ⟨rfl, hb7⟩
  have hB7 := hB6.trans (hb7.mono hB6.size)
  clear hb7 hB6 hr6 hX hS hS'
  go_wp2_with fail
  refine (K1.out _).mono ?_
  rintro e w8 ⟨rfl, rfl⟩
  go_wp2_with fail
  refine (K2.out _).mono ?_
  rintro e w8 ⟨rfl, rfl⟩
  go_wp2_with fail
  refine (K3.out _).mono ?_
  rintro e w8 ⟨rfl, rfl⟩
  go_wp2_with fail
  refine (K4.out _).mono ?_
  rintro e w8 ⟨rfl, rfl⟩
  go_wp2_with fail
  go_ret
  exact ⟨rfl, hB7⟩
end Go.Proofs.YtibnikokgbfcdaaDoor

/- Walk: podiumref32.Index where the number is there; a new slice of ints; plain laws of exchanges. -/
namespace Go.Proofs.YtibnikokgbfcdaaDoor
open Go.RowKit

set_option maxRecDepth 100000 in
set_option maxHeartbeats 1000000 in
theorem index_found (A : Option Addr) (f : Nat → Int) (n c k : Nat) (x : Int) (w : World) (hA : Rd w w.heap.size A n (fun i => .int .i64 (f i)))
    (hn : n ≤ 4611686018427387903) (hk : k < n) (hx : f k = x) (hb : ∀ i, i < k → f i ≠ x) : Calls Tryd.prog 35 #[.slice A n c, .int .i64 x] w (fun e w' => e = .returned (.int .i64 k) ∧ w = w') := by
  have HA := Lib.hid hA
  have HX := Lib.hid hx
  have HB := Lib.hid hb
  clear hA hx hb
  go_enter Tryd.func35, Tryd.ntmps35
  go_wp2_with fail
  go_loopw [5] (fun v wr => ∃ j : Nat, j ≤ k ∧ v = .int .i64 j ∧ w = wr) (fun v _ => n - (intOf v).toNat)
  case atStart => exact ⟨0, by omega, rfl, rfl⟩
  case round =>
    obtain ⟨j, hj, rfl, rfl⟩ := hrel
    obtain ⟨b, off, rfl, _, hc⟩ := HA.out.at_ (k := j) (by omega)
    obtain ⟨y, hy⟩ : ∃ y, y = f j := ⟨_, rfl⟩
    rw [← hy] at hc
    have HY := Lib.hid hy
    clear hy
    have hjn : j < n := by omega
    by_cases hxy : y = x
    · have hjk : j = k := by
        rcases Nat.lt_or_ge j k with h | h
        · exact absurd (by rw [← HY.out]; exact hxy) (HB.out j h)
        · omega
      subst hjk
      subst hxy
      go_wp2
      go_ret
      exact ⟨rfl, rfl⟩
    · have hjk : j < k := by
        rcases Nat.lt_or_ge j k with h | h
        · exact h
        · have e : j = k := by omega
          exact absurd (by rw [HY.out, e, HX.out]) hxy
      go_wp2
      go_roundw
      case rel => exact ⟨j + 1, by omega, by go_num, by first | rfl | trivial⟩
      case measure => simp [intOf]; omega

theorem icells_zeros (n : Nat) : icells (List.replicate n 0) = List.replicate n (Value.int .i64 0) := by simp [icells]
theorem madeCells_int (n : Nat) : (madeCells (Value.int .i64 0).cells (n * 1)).toList = icells (List.replicate n 0) := by
  rw [icells_zeros, Nat.mul_one]
  apply List.ext_getElem?
  intro k
  by_cases h : k < n
  · simp [madeCells, Value.cells, h, Nat.mod_one]
  · simp [madeCells, h]
section
variable {ops : Array Oper} {rest : List Oper} {o : Oper} {a : Act} {Q : Exit → Act → World → Prop}
theorem make_int (hg : o.guard = none) (l : Operand) (hop : o.op = Op.makeSlice 32 l l) (base : Nat) {w : World} (n : Nat) (hl : a.eval l = .int .i64 n) (hn : n ≤ 1048576) (hb : base ≤ w.heap.size)
    (hK : ∀ w', IOwn w' base (.slice (some ⟨w.heap.size, 0, none⟩) n n) (List.replicate n 0) → w.grownBy w' none → wpList Tryd.prog ops Q rest (a.put o.dst (.slice (some ⟨w.heap.size, 0, none⟩) n n)) w') :
    wpList Tryd.prog ops Q (o :: rest) a w :=
  wpList_make_full w hg l l 32 hop base 3 iInfo (.int .i64 0) 1 Tryd.underlying32 iInfo_eq iInfo_zero iInfo_size .i64 .i64 n n n hl hl rfl rfl (by rw [iInfo_bytes]; omega) (by simp only [maxLen]; omega) hb
    fun w' h1 h2 => hK w' (by
      show World.ownsRow w' base 3 1 _ (List.replicate n (0 : Int)).length (icells (List.replicate n 0))
      rw [List.length_replicate, ← madeCells_int]
      exact h1) h2
end

/-- The first j of n places hold their own numbers, the others 0. -/
def fillL (n j : Nat) : List Int := iota j ++ List.replicate (n - j) 0
theorem fillL_length (n j : Nat) (h : j ≤ n) : (fillL n j).length = n := by simp [fillL, iota_length]; omega
theorem fillL_zero (n : Nat) : fillL n 0 = List.replicate n 0 := by simp [fillL, iota]
theorem fillL_all (n : Nat) : fillL n n = iota n := by simp [fillL]
theorem fillL_set (n j : Nat) (h : j < n) : (fillL n j).set j (j : Int) = fillL n (j + 1) := by
  obtain ⟨m, hm⟩ : ∃ m, n - j = m + 1 := ⟨n - j - 1, by omega⟩
  have hm' : n - (j + 1) = m := by omega
  rw [fillL, fillL, hm, hm', List.set_append_right _ _ (by rw [iota_length]; omega), iota_length, Nat.sub_self, List.replicate_succ, List.set_cons_zero, iota_succ, List.append_assoc]
  rfl
theorem IOwn.set {w : World} {base g c n : Nat} {l : List Int} (h : IOwn w base (.slice (some ⟨g, 0, none⟩) n c) l) (hn : l.length = n) (j : Nat) (x : Int) :
    IOwn (w.setCell ⟨g, j, none⟩ (.int .i64 x)) base (.slice (some ⟨g, 0, none⟩) n c) (l.set j x) ∧ Grew w (w.setCell ⟨g, j, none⟩ (.int .i64 x)) (.slice (some ⟨g, 0, none⟩) n c) (.slice (some ⟨g, 0, none⟩) n c) := by
  subst hn
  obtain ⟨h1, g1⟩ := World.ownsRow.stored h j (.int .i64 x)
  refine ⟨?_, g1, .inl rfl⟩
  show World.ownsRow _ base 3 1 _ (l.set j x).length (icells (l.set j x))
  rw [List.length_set, icells_set]
  exact h1
theorem IOwn.fill {w : World} {base g n j : Nat} (h : IOwn w base (.slice (some ⟨g, 0, none⟩) n n) (fillL n j)) (hj : j < n) :
    IOwn (w.setCell ⟨g, j, none⟩ (.int .i64 j)) base (.slice (some ⟨g, 0, none⟩) n n) (fillL n (j + 1)) ∧ Grew w (w.setCell ⟨g, j, none⟩ (.int .i64 j)) (.slice (some ⟨g, 0, none⟩) n n) (.slice (some ⟨g, 0, none⟩) n n) := by
  have := h.set (fillL_length n j (by omega)) j j
  rwa [fillL_set n j hj] at this
/-- What lies at base or later, and is lied in, leaves everything below as it is. -/
theorem IOwn.belowSet {w wr : World} {base B g c n : Nat} {l : List Int} {v : Value} (h : IOwn wr base (.slice (some ⟨g, 0, none⟩) n c) l) (hB : Below B w wr) (hbase : B ≤ base) {j : Nat} : Below B w (wr.setCell ⟨g, j, none⟩ v) :=
  hB.setCell (p := ⟨g, j, none⟩) (by have := (World.ownsRow.lt h g rfl).1; show B ≤ g; omega) v
theorem IOwn.cellAt {w : World} {base n c g : Nat} {l : List Int} (h : IOwn w base (.slice (some ⟨g, 0, none⟩) n c) l) (hn : l.length = n) {k : Nat} (hk : k < n) : w.cell? ⟨g, k, none⟩ = some (.int .i64 (l.getD k 0)) := by
  subst hn
  exact (World.ownsRow.cellAt h k (by omega)).trans (icells_get l k hk)
theorem IOwn.rd {w : World} {base : Nat} {A : Option Addr} {n c : Nat} {l : List Int} (h : IOwn w base (.slice A n c) l) (hn : l.length = n) : Rd w w.heap.size A n (fun k => .int .i64 (l.getD k 0)) := by
  subst hn
  obtain ⟨A', c', e, _, _, hR⟩ := h.shape
  simp only [Value.slice.injEq] at e
  rw [e.1]
  exact hR
theorem IOwn.frozenAt {w : World} {base g c n : Nat} {l : List Int} (h : IOwn w base (.slice (some ⟨g, 0, none⟩) n c) l) (hn : l.length = n) (k : Nat) : w.frozen? ⟨g, k, none⟩ = false := by
  subst hn
  exact World.ownsRow.frozenAt h k

/-- 's[:i]'. -/
theorem slice_upto (W : World) (g i j : Nat) (h : i ≤ j) : (Instr.slice 32 (.slice (some ⟨g, 0, none⟩) j j) none (some (.int .i64 (i : Int))) none).run Tryd.prog W = .ok (.slice (some ⟨g, 0, none⟩) i j) W := by
  simp [Instr.slice, run_underlying Tryd.underlying32, Instr.sliceBounds, Instr.sliceBound, asIntOf, h, Addr.add_mid]

/-! Plain laws of exchanges. -/
theorem getD_set (l : List Int) (i p : Nat) (x : Int) (hi : i < l.length) : (l.set i x).getD p 0 = if p = i then x else l.getD p 0 := by
  by_cases h : p = i
  · subst h
    rw [if_pos rfl, List.getD_eq_getElem?_getD, List.getElem?_set_self hi]
    rfl
  · rw [if_neg h, List.getD_eq_getElem?_getD, List.getD_eq_getElem?_getD, List.getElem?_set_ne (fun e => h e.symm)]
theorem getD_swapL (l : List Int) (i k p : Nat) (hi : i < l.length) (hk : k < l.length) : (swapL l i k).getD p 0 = if p = k then l.getD i 0 else if p = i then l.getD k 0 else l.getD p 0 := by
  rw [swapL, getD_set _ _ _ _ (by rw [List.length_set]; exact hk), getD_set _ _ _ _ hi]
/-- No number twice. -/
def Dis (l : List Int) : Prop := ∀ a b, a < l.length → b < l.length → l.getD a 0 = l.getD b 0 → a = b
theorem Dis.swap {l : List Int} (h : Dis l) (i k : Nat) (hi : i < l.length) (hk : k < l.length) : Dis (swapL l i k) := by
  have tr : ∀ p, p < l.length → (swapL l i k).getD p 0 = l.getD (if p = k then i else if p = i then k else p) 0 := fun p _ => by
    rw [getD_swapL l i k p hi hk]
    split
    · rfl
    · split <;> rfl
  have lt : ∀ p, p < l.length → (if p = k then i else if p = i then k else p) < l.length := fun p hp => by
    split
    · exact hi
    · split
      · exact hk
      · exact hp
  intro a b ha hb hab
  rw [swapL_length] at ha hb
  rw [tr a ha, tr b hb] at hab
  have e := h _ _ (lt a ha) (lt b hb) hab
  by_cases a1 : a = k <;> by_cases a2 : a = i <;> by_cases b1 : b = k <;> by_cases b2 : b = i <;> simp only [a1, a2, b1, b2, if_true, if_false] at e <;> (first | omega | (split at e <;> omega))
theorem iota_getD (n k : Nat) (h : k < n) : (iota n).getD k 0 = (k : Int) := by
  rw [List.getD_eq_getElem?_getD, iota, List.getElem?_map, List.getElem?_range h]
  rfl
theorem dis_iota (n : Nat) : Dis (iota n) := by
  intro a b ha hb h
  rw [iota_length] at ha hb
  rw [iota_getD n a ha, iota_getD n b hb] at h
  omega
theorem swapL_self (l : List Int) (i : Nat) (hi : i < l.length) : swapL l i i = l := by
  apply List.ext_getElem?
  intro p
  by_cases hp : p < l.length
  · have h1 := getD_swapL l i i p hi hi
    have h2 : p < (swapL l i i).length := by rw [swapL_length]; exact hp
    rw [List.getD_eq_getElem?_getD, List.getD_eq_getElem?_getD, List.getD_eq_getElem?_getD, List.getElem?_eq_getElem h2, List.getElem?_eq_getElem hp, List.getElem?_eq_getElem hi] at h1
    rw [List.getElem?_eq_getElem h2, List.getElem?_eq_getElem hp]
    congr 1
    simp only [Option.getD_some] at h1
    rw [h1]
    split
    · next h => simp only [h]
    · rfl
  · rw [List.getElem?_eq_none (by rw [swapL_length]; omega), List.getElem?_eq_none (by omega)]
/-- The places above i stay as they are. -/
theorem shuf_above (ks : Nat → Nat) (hks : ∀ i, ks i ≤ i) : ∀ (i : Nat) (l : List Int) (p : Nat), i < l.length → i < p → (shuf ks i l).getD p 0 = l.getD p 0
  | 0, _, _, _, _ => rfl
  | i + 1, l, p, h, hp => by
    rw [shuf, shuf_above ks hks i (swapL l (i + 1) (ks (i + 1))) p (by rw [swapL_length]; omega) (by omega), getD_swapL _ _ _ _ h (by have := hks (i + 1); omega)]
    rw [if_neg (by have := hks (i + 1); omega), if_neg (by omega)]
/-- At place i lies what lay at the place that was drawn. -/
theorem shuf_at (ks : Nat → Nat) (hks : ∀ i, ks i ≤ i) (i : Nat) (l : List Int) (h : i < l.length) : (shuf ks i l).getD i 0 = l.getD (ks i) 0 := by
  cases i with
  | zero =>
    have : ks 0 = 0 := by have := hks 0; omega
    rw [this]; rfl
  | succ i =>
    rw [shuf, shuf_above ks hks i _ (i + 1) (by rw [swapL_length]; omega) (by omega), getD_swapL _ _ _ _ h (by have := hks (i + 1); omega)]
    split
    · next e => rw [← e]
    · rw [if_pos rfl]
/-- One more exchange on the way back. -/
theorem shuf_step (ks : Nat → Nat) (hks : ∀ i, ks i ≤ i) (i : Nat) (l : List Int) (h : i < l.length) : shuf ks (i - 1) (swapL l i (ks i)) = shuf ks i l := by
  cases i with
  | zero =>
    have : ks 0 = 0 := by have := hks 0; omega
    rw [this, swapL_self l 0 h]
  | succ i => rfl
end Go.Proofs.YtibnikokgbfcdaaDoor

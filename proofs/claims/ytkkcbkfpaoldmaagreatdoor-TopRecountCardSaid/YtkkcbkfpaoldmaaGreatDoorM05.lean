/- Several texts in one: Low, W910, W11. -/
import Derived.Test.YtkkcbkfpaoldmaaGreatDoorBase
import Derived.Test.YtkkcbkfpaoldmaaGreatDoorM04
import Derived.Lib.ConvBytes
import Derived.Laws.EntriesVeiled
import Derived.Deep.RegionHeld3
import Derived.StillTailTactics
/- Several texts in one: Bytes, W5, Ops, W6, W7, W8. -/
/- Plain words on bytes and digests: lists of bytes in memory, SHA-256 as a function of a list of bytes. -/
namespace Go.Proofs.YtkkcbkfpaoldmaaGreatDoor
open Go Go.RowKit

/-- Byte k of a list. -/
def byteAt (l : List UInt8) (k : Nat) : Int := ((l.getD k 0).toNat : Int)
/-- A byte, as a value. -/
def B8 (c : UInt8) : Value := .int .u8 (c.toNat : Int)
/-- The cells of a list of bytes. -/
def bcells (l : List UInt8) : List Value := l.map B8
theorem bcells_len (l : List UInt8) : (bcells l).length = l.length := by simp [bcells]
theorem bcells_append (a b : List UInt8) : bcells (a ++ b) = bcells a ++ bcells b := by simp [bcells]
theorem bcells_cons (c : UInt8) (l : List UInt8) : bcells (c :: l) = B8 c :: bcells l := rfl
theorem bcells_nil : bcells [] = [] := rfl
theorem bcells_get (l : List UInt8) (k : Nat) (h : k < l.length) : (bcells l)[k]? = some (.int .u8 (byteAt l k)) := by
  simp [bcells, byteAt, B8, h]
theorem range_bytes (l : List UInt8) : (List.range l.length).map (fun k => Value.int .u8 (byteAt l k)) = bcells l := by
  apply List.ext_getElem?
  intro k
  by_cases h : k < l.length
  · rw [bcells_get l k h]
    simp [h]
  · rw [List.getElem?_eq_none (by simpa using h), List.getElem?_eq_none (by simpa [bcells] using h)]
theorem bcells_one (l : List UInt8) : ∀ u ∈ bcells l, u.oneCell' = true := by
  intro u hu
  obtain ⟨_, _, rfl⟩ := List.mem_map.1 hu
  rfl
/-- The slice's address A reads as the list of bytes. -/
def RdB (w : World) (B : Nat) (A : Option Addr) (l : List UInt8) : Prop := Rd w B A l.length fun k => .int .u8 (byteAt l k)
theorem RdB.nil {w : World} {B : Nat} {A : Option Addr} : RdB w B A [] := Rd.zero
theorem RdB.of_own {w : World} {base : Nat} {e : TypeId} {A : Option Addr} {n c : Nat} {l : List UInt8} (h : w.ownsRow base e 1 (.slice A n c) n (bcells l)) : n = l.length ∧ RdB w w.heap.size A l := by
  have hn : n = l.length := by have := h.1; rw [bcells_len] at this; omega
  refine ⟨hn, ?_⟩
  subst hn
  have := rd_of_own h
  rw [Nat.mul_one] at this
  refine this.congr fun k hk => ?_
  rw [List.getD_eq_getElem?_getD, bcells_get l k hk]
  rfl
theorem RdB.of_blk {w : World} {b : Nat} {t : TypeId} {cs : Array Value} (h : Blk w b t cs) {off : Nat} {l : List UInt8} (hf : ∀ k, k < l.length → cs[off + k]? = some (.int .u8 (byteAt l k))) : RdB w w.heap.size (some ⟨b, off, none⟩) l :=
  Rd.of_blk h h.lt hf

/-- The hash of a list of bytes: 32 bytes. -/
def sha (l : List UInt8) : List UInt8 := (List.range 32).map fun i => UInt8.ofNat (digByte (shaEnd (byteAt l) l.length) i).toNat
theorem sha_length (l : List UInt8) : (sha l).length = 32 := by simp [sha]
/-- The cells of a digest. -/
def dig (d : List UInt8) : Array Value := (bcells d).toArray
theorem dig_size (d : List UInt8) : (dig d).size = d.length := by simp [dig, bcells_len]
theorem dig_get (d : List UInt8) (k : Nat) (h : k < d.length) : (dig d)[k]? = some (.int .u8 (byteAt d k)) := by
  rw [dig, List.getElem?_toArray, bcells_get d k h]
theorem dig_one (d : List UInt8) : (dig d).all (·.oneCell') = true :=
  one_of _ fun i hi => ⟨_, dig_get d i (by rwa [dig_size] at hi), rfl⟩
theorem byteOf_range (x : Int) (i : Nat) : 0 ≤ byteOf x i ∧ byteOf x i < 256 := by unfold byteOf; omega
theorem u8_of (x : Int) (h0 : 0 ≤ x) (h1 : x < 256) : ((UInt8.ofNat x.toNat).toNat : Int) = x := by
  have h : x.toNat < 256 := by omega
  rw [UInt8.toNat_ofNat_of_lt' h]
  omega
theorem dig_sha (l : List UInt8) (cs : Array Value) (hs : cs.size = 32) (hc : ∀ i, i < 32 → cs[i]? = some (.int .u8 (digByte (shaEnd (byteAt l) l.length) i))) : cs = dig (sha l) := by
  apply Array.ext_getElem?
  intro i
  by_cases h : i < 32
  · rw [hc i h, dig_get _ i (by rw [sha_length]; exact h), byteAt, sha]
    have hb : 0 ≤ digByte (shaEnd (byteAt l) l.length) i ∧ digByte (shaEnd (byteAt l) l.length) i < 256 := byteOf_range _ _
    simp only [List.getD_eq_getElem?_getD, List.getElem?_map, List.getElem?_range h, Option.map_some, Option.getD_some]
    rw [u8_of _ hb.1 hb.2]
  · rw [Array.getElem?_eq_none (by omega), Array.getElem?_eq_none (by rw [dig_size, sha_length]; omega)]

/-- The result is this value, and what was there before the call is as it was. -/
def Ret (v : Value) (w : World) (e : Ending) (w' : World) : Prop := e = .returned v ∧ Below w.heap.size w w'

theorem sum_bytes (l : List UInt8) (A : Option Addr) (cap : Nat) (w : World) (hL : Laid w) (hA : RdB w w.heap.size A l) (hn : l.length ≤ cap) (hcap : cap ≤ 9223372036854775807) (hn48 : l.length ≤ 281474976710656) :
    Calls Tryz.prog 138 #[.slice A l.length cap] w (Ret (.agg (dig (sha l))) w) :=
  (sum_any A l.length cap (byteAt l) w hL hA hn hcap hn48).mono fun _ _ ⟨⟨cs, he, hs, hc⟩, hb⟩ => ⟨by rw [he, dig_sha l cs hs hc], hb⟩

section
variable {ops : Array Oper} {rest : List Oper} {o : Oper} {a : Act} {Q : Exit → Act → World → Prop} (w : World)
theorem src_bytes {B : Nat} {A : Option Addr} {l : List UInt8} {c : Nat} (hR : RdB w B A l) : Src Tryz.prog 1 177 (.slice A l.length c) l.length (bcells l) w := by
  have h := src_rd (P := Tryz.prog) w (size := 1) (tx := 177) Tryz.underlying177 (c := c) (by rw [Nat.mul_one]; exact hR) (by decide) (fun k _ => rfl)
  rw [Nat.mul_one, range_bytes] at h
  exact h
theorem src_string (s : ByteArray) : Src Tryz.prog 1 9 (.string s) s.size (bcells s.data.toList) w := Src.ofString w Tryz.underlying9 s
/-- 'b = append(b, ..)' of bytes onto bytes of the call's own. -/
theorem app_bytes (hgd : o.guard = none) (s x : Operand) (tx : TypeId) (ho : o.op = .call { callee := .builtin .append, args := #[s, x], argTypes := #[177, tx] })
    (base : Nat) (v : Value) (n : Nat) (xs : List Value) (hs : a.eval s = v) (hown : w.ownsRow base 5 1 v n xs)
    (xv : Value) (m : Nat) (news : List Value) (hx : a.eval x = xv) (hsrc : Src Tryz.prog 1 tx xv m news w) (h47 : n + m ≤ 140737488355328) (hbase : base ≤ w.heap.size)
    (h : ∀ v' w', w'.ownsRow base 5 1 v' (n + m) (xs ++ news) → Grew w w' v v' → wpList Tryz.prog ops Q rest (a.put o.dst v') w') : wpList Tryz.prog ops Q (o :: rest) a w :=
  wpList_append_src w hgd s x 177 tx ho base 5 bInfo (.int .u8 0) 1 1 Tryz.underlying177 bInfo_eq bInfo_zero bInfo_size bInfo_bytes rfl v n xs hs hown xv m news hx hsrc (by simp only [maxLen]; omega) (by omega) hbase h
end
end Go.Proofs.YtkkcbkfpaoldmaaGreatDoor

/- Walks: slices.Grow, slices.Concat of two slices of bytes, digest.Tagged. -/
namespace Go.Proofs.YtkkcbkfpaoldmaaGreatDoor
open Go.RowKit

def GrowPost (w : World) (e : Ending) (w' : World) : Prop := ∃ v, e = .returned v ∧ w'.ownsRow w.heap.size 5 1 v 0 [] ∧ Below w.heap.size w w'
set_option maxHeartbeats 1000000 in
theorem grow_nil (n : Nat) (w : World) (h0 : 0 < n) (hn : n ≤ 140737488355328) :
    Calls Tryz.prog 145 #[.slice none 0 0, .int .i64 n] w (GrowPost w) := by
  have happ := fun ty => run_append_zeros_nil (P := Tryz.prog) w 177 3 ty 5 bInfo (.int .u8 0) .i64 Tryz.underlying177 Tryz.underlying3 bInfo_eq bInfo_zero (by rw [bInfo_size]; decide) n h0 (by omega) (by rw [bInfo_bytes]; omega)
  have hc : grownCap w n 0 5 ≤ maxLen := grownCap_le_maxLen w n 0 _ (by simp only [maxLen]; omega)
  have hge := grownCap_ge w n 0 5
  obtain ⟨C, hC⟩ : ∃ C, C = grownCap w n 0 5 := ⟨_, rfl⟩
  obtain ⟨Z, hZ⟩ : ∃ Z, Z = Builtin.zeroCells (Value.int .u8 0).cells n ++ Builtin.zeroCells (Value.int .u8 0).cells (grownCap w n 0 5 - n) := ⟨_, rfl⟩
  have hZs : Z.size = C := by rw [hZ, hC, Array.size_append, size_zeroCells, size_zeroCells]; simp [Value.cells]; omega
  rw [← hZ, ← hC] at happ
  rw [← hC] at hc hge
  have HZS := Lib.hid hZs
  have HC := Lib.hid hc
  clear hZ hC hZs hc
  have hi0 : (0 : Int) < n := by omega
  go_enter Tryz.func145, Tryz.ntmps145
  have HA := Lib.hid happ
  clear happ
  go_wp2_with (at_builtin; refine wpList_append_run _ rfl _ _ 177 3 rfl _ _ rfl rfl _ _ HA.out ?_)
  go_ret
  refine ⟨_, rfl, ?_, (Below.refl _ w).drew.alloc (by simp) _⟩
  have h := World.ownsRow_made w.drew (e := 5) (size := 1) (base := w.heap.size) Z C (Nat.le_refl _) HC.out (by rw [HZS.out, Nat.mul_one])
  exact h

def OwnPost (l : List UInt8) (w : World) (e : Ending) (w' : World) : Prop := ∃ v, e = .returned v ∧ w'.ownsRow w.heap.size 5 1 v l.length (bcells l) ∧ Below w.heap.size w w'
set_option maxHeartbeats 1000000 in
theorem concat_two (g off c : Nat) (A1 A2 : Option Addr) (c1 c2 n1 n2 : Nat) (l1 l2 : List UInt8) (w : World) (e1 : n1 = l1.length) (e2 : n2 = l2.length) (h1 : w.cell? ⟨g, off, none⟩ = some (.slice A1 n1 c1)) (h2 : w.cell? ⟨g, off + 1, none⟩ = some (.slice A2 n2 c2))
    (r1 : RdB w w.heap.size A1 l1) (r2 : RdB w w.heap.size A2 l2) (hpos : 0 < n1 + n2) (hmax : n1 + n2 ≤ 140737488355328) :
    Calls Tryz.prog 139 #[.slice (some ⟨g, off, none⟩) 2 c] w (OwnPost (l1 ++ l2) w) := by
  have E1 := Lib.hid e1
  have E2 := Lib.hid e2
  clear e1 e2
  have hgl : g < w.heap.size := World.block_lt_of_cell? w _ h1
  go_enter Tryz.func139, Tryz.ntmps139
  go_wp2_with fail
  go_loop [3, 11] (fun s i => (i = .int .i64 0 ∧ s = .int .i64 0) ∨ (i = .int .i64 1 ∧ s = .int .i64 n1) ∨ (i = .int .i64 2 ∧ s = .int .i64 ((n1 : Int) + n2))) (fun _ i => 2 - (intOf i).toNat)
  case atStart => exact .inl ⟨rfl, rfl⟩
  case round =>
    rcases hrel with ⟨rfl, rfl⟩ | ⟨rfl, rfl⟩ | ⟨rfl, rfl⟩
    · go_wp2_with fail
      go_round
      case rel => exact .inr (.inl ⟨rfl, rfl⟩)
      case measure => simp [intOf]
    · go_wp2_with fail
      go_round
      case rel => exact .inr (.inr ⟨rfl, rfl⟩)
      case measure => simp [intOf]
    · go_wp2_with fail
      refine (grow_nil (n1 + n2) w hpos hmax).mono ?_
      rintro e w1 ⟨v, rfl, hown, hb⟩
      have h1' := (hb.cell (p := ⟨g, off, none⟩) hgl).trans h1
      have h2' := (hb.cell (p := ⟨g, off + 1, none⟩) hgl).trans h2
      have r1' := r1.below hb
      have r2' := r2.below hb
      clear h1 h2 r1 r2
      go_wp2_with fail
      go_loopw [6, 27] (fun v i wr => ((i = .int .i64 0 ∧ wr.ownsRow w.heap.size 5 1 v 0 []) ∨ (i = .int .i64 1 ∧ wr.ownsRow w.heap.size 5 1 v n1 (bcells l1)) ∨ (i = .int .i64 2 ∧ wr.ownsRow w.heap.size 5 1 v (n1 + n2) (bcells l1 ++ bcells l2))) ∧ Below w.heap.size w1 wr) (fun _ i _ => 2 - (intOf i).toNat)
      case atStart => exact ⟨.inl ⟨rfl, hown⟩, Below.refl _ _⟩
      case round =>
        clear hown
        obtain ⟨hcase, hb1⟩ := hrel
        have h1 := (hb1.cell (p := ⟨g, off, none⟩) hgl).trans h1'
        have h2 := (hb1.cell (p := ⟨g, off + 1, none⟩) hgl).trans h2'
        have s1 : Src Tryz.prog 1 177 (.slice A1 n1 c1) n1 (bcells l1) wr := by rw [E1.out]; exact src_bytes wr (r1'.below hb1)
        have s2 : Src Tryz.prog 1 177 (.slice A2 n2 c2) n2 (bcells l2) wr := by rw [E2.out]; exact src_bytes wr (r2'.below hb1)
        have hB : w.heap.size ≤ wr.heap.size := Nat.le_trans hb.size hb1.size
        clear h1' h2' r1' r2'
        rcases hcase with ⟨rfl, hown⟩ | ⟨rfl, hown⟩ | ⟨rfl, hown⟩
        · go_wp2_with (at_builtin; refine app_bytes wr rfl _ _ 177 rfl w.heap.size _ 0 [] rfl hown _ n1 _ rfl s1 (by omega) hB ?_; intro v' w2 hown' hgr)
          rw [Nat.zero_add, List.nil_append] at hown'
          go_roundw
          case rel => exact ⟨.inr (.inl ⟨rfl, hown'⟩), hb1.trans (hgr.below hB fun k hk => (hown.lt k hk).1)⟩
          case measure => simp [intOf]
        · go_wp2_with (at_builtin; refine app_bytes wr rfl _ _ 177 rfl w.heap.size _ n1 _ rfl hown _ n2 _ rfl s2 (by omega) hB ?_; intro v' w2 hown' hgr)
          go_roundw
          case rel => exact ⟨.inr (.inr ⟨rfl, hown'⟩), hb1.trans (hgr.below hB fun k hk => (hown.lt k hk).1)⟩
          case measure => simp [intOf]
        · go_wp2_with fail
          go_ret
          refine ⟨_, rfl, ?_, hb.trans hb1⟩
          rw [List.length_append, bcells_append, ← E1.out, ← E2.out]
          exact hown
end Go.Proofs.YtkkcbkfpaoldmaaGreatDoor

/- Laws at single operations, for walks: conversions between strings and bytes, digests stored and loaded whole, equality of digests. -/
namespace Go.Proofs.YtkkcbkfpaoldmaaGreatDoor
open Go Go.RowKit

section
variable {ops : Array Oper} {rest : List Oper} {o : Oper} {a : Act} {Q : Exit → Act → World → Prop}
/-- A value stored whole into the block that was made last. -/
theorem wpList_store_new {P : Program} (hgd : o.guard = none) (ty : TypeId) (x y : Operand) (ho : o.op = .store ty x y) (w : World) (c cells : Array Value) (t : TypeId)
    (hx : a.eval x = .pointer (some ⟨w.heap.size, 0, none⟩)) (hy : a.eval y = .agg cells) (hi : (P.info? ty).map (·.size) = some cells.size) (hold : c.size = cells.size) (h1 : cells.all (·.oneCell') = true)
    (h : wpList P ops Q rest (a.put o.dst undef) (w.alloc (.cells cells t))) : wpList P ops Q (o :: rest) a (w.alloc (.cells c t)) :=
  wpList_store_row hgd ty x y ho w.heap.size cells hx hy t c (heap_alloc_last w _) hi hold h1 (by rw [World.setRow_alloc_new]; exact h)
theorem dig_info (d : List UInt8) (h : d.length = 32) : (Tryz.prog.info? 31).map (·.size) = some (dig d).size := by rw [dig_size, h]; exact Tryz.size31
/-- A digest stored into the block that was made last. -/
theorem store_dig_new (hgd : o.guard = none) (x y : Operand) (ho : o.op = .store 31 x y) (w : World) (c : Array Value) (t : TypeId) (d : List UInt8) (hd : d.length = 32)
    (hx : a.eval x = .pointer (some ⟨w.heap.size, 0, none⟩)) (hy : a.eval y = .agg (dig d)) (hold : c.size = 32)
    (h : wpList Tryz.prog ops Q rest (a.put o.dst undef) (w.alloc (.cells (dig d) t))) : wpList Tryz.prog ops Q (o :: rest) a (w.alloc (.cells c t)) :=
  wpList_store_new hgd _ x y ho w c (dig d) t hx hy (dig_info d hd) (by rw [hold, dig_size, hd]) (dig_one d) h
/-- A digest stored into a block that is known. -/
theorem store_dig (hgd : o.guard = none) (x y : Operand) (ho : o.op = .store 31 x y) {w : World} {g : Nat} {c : Array Value} {t : TypeId} (hg : Blk w g t c) (d : List UInt8) (hd : d.length = 32)
    (hx : a.eval x = .pointer (some ⟨g, 0, none⟩)) (hy : a.eval y = .agg (dig d)) (hold : c.size = 32)
    (h : ∀ w', Blk w' g t (dig d) → Only w w' g → w'.heap.size = w.heap.size → wpList Tryz.prog ops Q rest (a.put o.dst undef) w') : wpList Tryz.prog ops Q (o :: rest) a w :=
  wpList_store_row hgd _ x y ho g (dig d) hx hy t c hg (dig_info d hd) (by rw [hold, dig_size, hd]) (dig_one d)
    (h _ (setRow_heap w g c _ t _ hg) ⟨rfl, rfl, rfl, by simp, fun i _ hne => setRow_other w g i _ (fun e => hne (by rw [e]))⟩ (by simp))
/-- A digest loaded out of a block that is known. -/
theorem load_dig (hgd : o.guard = none) (x : Operand) (ho : o.op = .load 31 x) {w : World} {g : Nat} {t : TypeId} (d : List UInt8) (hd : d.length = 32) (hg : Blk w g t (dig d))
    (hx : a.eval x = .pointer (some ⟨g, 0, none⟩)) (h : wpList Tryz.prog ops Q rest (a.put o.dst (.agg (dig d))) w) : wpList Tryz.prog ops Q (o :: rest) a w :=
  wpList_load_row hgd _ x ho g hx t (dig d) (0, 0) _ hg Tryz.underlying31 rfl (dig_info d hd) h

/-- The same at one operation of a region that draws its order. -/
theorem step_app {K : Act → World → Prop} {E : Prop} (hgd : o.guard = none) (s x : Operand) (tx : TypeId) (ho : o.op = .call { callee := .builtin .append, args := #[s, x], argTypes := #[177, tx] })
    (base : Nat) (W : World) (v : Value) (n : Nat) (xs : List Value) (hown : W.ownsRow base 5 1 v n xs) (hs : a.eval s = v)
    (xv : Value) (m : Nat) (news : List Value) (hsrc : Src Tryz.prog 1 tx xv m news W) (hx : a.eval x = xv) (h47 : n + m ≤ 140737488355328) (hbase : base ≤ W.heap.size)
    (h : ∀ v' w', w'.ownsRow base 5 1 v' (n + m) (xs ++ news) → Grew W w' v v' → K (a.put o.dst v') w') :
    if Region.wanted o (yielded ops a.tmps) = true then Oper.wp Tryz.prog o a W K Q else E := by
  have hw : Region.wanted o (yielded ops a.tmps) = true := by simp [Region.wanted, hgd]
  rw [if_pos hw]
  obtain ⟨v', w', hrun, h2, h3⟩ := run_append_own_src (P := Tryz.prog) W base 177 tx o.type 5 bInfo (.int .u8 0) 1 1 Tryz.underlying177 bInfo_eq bInfo_zero bInfo_size bInfo_bytes rfl v n xs hown xv m news hsrc (by simp only [maxLen]; omega) (by omega) hbase
  unfold Oper.wp execOp
  simp only [ho, resolve, invoke, builtin, Sem.run_bind, Sem.run_pure, Result.andThen_ok, List.map_toArray, List.map_cons, List.map_nil, hs, hx, hrun]
  exact h v' w' h2 h3
theorem src_byte {W : World} {g : Nat} {t : TypeId} (c : UInt8) (z : Int) (hz : z = (c.toNat : Int)) (h : Blk W g t #[.int .u8 z]) : Src Tryz.prog 1 177 (.slice (some ⟨g, 0, none⟩) 1 1) 1 [B8 c] W := by
  subst hz
  have hR : RdB W W.heap.size (some ⟨g, 0, none⟩) [c] := RdB.of_blk h fun k hk => by
    obtain rfl : k = 0 := by simpa using hk
    rfl
  exact src_bytes _ hR
theorem Grew.ne {w w' : World} {v v' : Value} (h : Grew w w' v v') {g : Nat} (hg : g < w.heap.size) (hne : some g ≠ v.ownBlock) : some g ≠ v'.ownBlock := by
  rcases h.2 with h2 | ⟨k, h2, h3⟩
  · rwa [h2]
  · rw [h2]; intro e; injection e; omega
theorem own_drew {w : World} {base : Nat} {e : TypeId} {size : Nat} {v : Value} {n : Nat} {xs : List Value} (h : w.ownsRow base e size v n xs) : w.drew.ownsRow base e size v n xs := h
theorem Grew.alloc_first {w w' : World} {v v' : Value} {ob : Obj} (h : Grew (w.alloc ob) w' v v') : Grew w w' v v' :=
  (Grew.of_below ((Below.refl _ w).alloc (Nat.le_refl _) ob) v).trans h
/-- 'b = append(b, c)': one byte onto bytes of the call's own. -/
theorem app_byte (hgd : o.guard = none) (s x : Operand) (ho : o.op = .call { callee := .builtin .append, args := #[s, x], argTypes := #[177, 177] })
    (base : Nat) (w : World) (v : Value) (n : Nat) (xs : List Value) (hs : a.eval s = v) (hown : w.ownsRow base 5 1 v n xs) (c : UInt8) (z : Int) (hz : z = (c.toNat : Int)) (t : TypeId)
    (hx : a.eval x = .slice (some ⟨w.heap.size, 0, none⟩) 1 1) (h47 : n + 1 ≤ 140737488355328) (hbase : base ≤ w.heap.size)
    (h : ∀ v' w', w'.ownsRow base 5 1 v' (n + 1) (xs ++ [B8 c]) → Grew w w' v v' → wpList Tryz.prog ops Q rest (a.put o.dst v') w') : wpList Tryz.prog ops Q (o :: rest) a (w.alloc (.cells #[.int .u8 z] t)) := by
  subst hz
  have hR : RdB (w.alloc (.cells #[.int .u8 (c.toNat : Int)] t)) (w.alloc (.cells #[.int .u8 (c.toNat : Int)] t)).heap.size (some ⟨w.heap.size, 0, none⟩) [c] :=
    RdB.of_blk (Blk.new w t _) fun k hk => by
      obtain rfl : k = 0 := by simpa using hk
      rfl
  exact app_bytes _ hgd s x 177 ho base v n xs hs (hown.alloc _) _ 1 [B8 c] hx (src_bytes _ hR) (by omega) (by simp; omega) fun v' w' h1 h2 => h v' w' h1 h2.alloc_first
/-- '[]byte(s)'. -/
theorem conv_str (hgd : o.guard = none) (x : Operand) (ho : o.op = .convert 9 177 x) (w : World) (s : ByteArray) (hs : s.size ≤ 140737488355328) (hx : a.eval x = .string s)
    (h : ∀ c w1, s.size ≤ c → c ≤ 9223372036854775807 → RdB w1 w1.heap.size (some ⟨w.heap.size, 0, none⟩) s.data.toList → Below w.heap.size w w1 → w1.heap.size = w.heap.size + 1 →
      wpList Tryz.prog ops Q rest (a.put o.dst (.slice (some ⟨w.heap.size, 0, none⟩) s.size c)) w1) : wpList Tryz.prog ops Q (o :: rest) a w :=
  wpList_plain hgd fun _ hK => by
    have hrun := Lib.run_convert_string_bytes (P := Tryz.prog) w 9 177 5 s Tryz.underlying9 Tryz.underlying177 Tryz.underlying5
    have hc := grownCap_ge w s.size 0 5
    have hc2 := grownCap_le_maxLen w s.size 0 5 (by simp only [maxLen]; omega)
    unfold Oper.wp execOp
    simp only [ho, hx, Sem.run_bind, Result.andThen_ok, hrun]
    refine hK _ _ (h _ _ hc hc2 ?_ ?_ (Lib.bytesWorld_size _ _ _))
    · intro _
      exact ⟨w.heap.size, 0, rfl, by rw [Lib.bytesWorld_size]; omega, fun k hk => by
        rw [Nat.zero_add, Lib.bytesWorld_cell w 5 s k hk]
        rfl⟩
    · exact ⟨rfl, rfl, rfl, by rw [Lib.bytesWorld_size]; omega, fun k hk => Lib.bytesWorld_at_old w 5 s k hk⟩
end
end Go.Proofs.YtkkcbkfpaoldmaaGreatDoor

/- Walk: digest.Tagged. -/
namespace Go.Proofs.YtkkcbkfpaoldmaaGreatDoor
open Go.RowKit

/-- The hash of bytes under a tag. -/
def tagged (t l : List UInt8) : List UInt8 := sha (sha t ++ l)
theorem tagged_length (t l : List UInt8) : (tagged t l).length = 32 := sha_length _

set_option maxRecDepth 100000 in
set_option maxHeartbeats 1000000 in
theorem tagged_any (s : ByteArray) (A : Option Addr) (l : List UInt8) (cap : Nat) (w : World) (hL : Laid w) (hA : RdB w w.heap.size A l) (hl : l.length ≤ 140737488000000) (hs : s.size ≤ 140737488000000) :
    Calls Tryz.prog 124 #[.string s, .slice A l.length cap] w (Ret (.agg (dig (tagged s.data.toList l))) w) := by
  go_enter Tryz.func124, Tryz.ntmps124
  go_wp2_with (refine conv_str rfl _ rfl _ s (by omega) rfl ?_; intro c1 w1 hc1 hc2 hr1 hb1 hz1; have hB1 : Below w.heap.size w w1 := ((Below.refl _ w).alloc (Nat.le_refl _) _).trans (hb1.mono (by simp)); have hD1 := (Blk.new w 31 _).below hb1 (by simp); simp only [World.size_alloc] at hr1 hz1; clear hb1)
  refine (sum_bytes s.data.toList _ _ _ (hL.below hB1) hr1 hc1 hc2 (Nat.le_trans hs (by omega))).mono ?_
  rintro e w2 ⟨rfl, hb2⟩
  have hB2 := hB1.trans (hb2.mono hB1.size)
  have hD2 := hD1.below hb2 hD1.lt
  have hz2 : w.heap.size + 2 ≤ w2.heap.size := by have := hb2.size; omega
  clear hD1 hr1
  go_wp2_with (refine store_dig_new rfl _ _ rfl _ _ _ (sha s.data.toList) (sha_length _) rfl rfl rfl ?_)
  have hr2 := hA.below hB2
  have hA3 : RdB ((w2.alloc (.cells (dig (sha s.data.toList)) 31)).alloc (.cells #[.slice (some ⟨w2.heap.size, 0, none⟩) 32 32, .slice A l.length cap] 177)) ((w2.alloc (.cells (dig (sha s.data.toList)) 31)).alloc (.cells #[.slice (some ⟨w2.heap.size, 0, none⟩) 32 32, .slice A l.length cap] 177)).heap.size A l :=
    ((hr2.more (B' := w2.heap.size) hB2.size).alloc (Nat.le_refl _) _ |>.alloc (by simp) _).more (by simp; omega)
  have hT : Blk ((w2.alloc (.cells (dig (sha s.data.toList)) 31)).alloc (.cells #[.slice (some ⟨w2.heap.size, 0, none⟩) 32 32, .slice A l.length cap] 177)) w2.heap.size 31 (dig (sha s.data.toList)) := (Blk.new w2 _ _).alloc _
  have hS : Blk ((w2.alloc (.cells (dig (sha s.data.toList)) 31)).alloc (.cells #[.slice (some ⟨w2.heap.size, 0, none⟩) 32 32, .slice A l.length cap] 177)) (w2.heap.size + 1) 177 #[.slice (some ⟨w2.heap.size, 0, none⟩) 32 32, .slice A l.length cap] := heap_alloc2_new w2 _ _
  have hB3 : Below w.heap.size w ((w2.alloc (.cells (dig (sha s.data.toList)) 31)).alloc (.cells #[.slice (some ⟨w2.heap.size, 0, none⟩) 32 32, .slice A l.length cap] 177)) := (hB2.alloc hB2.size _).alloc (Nat.le_trans hB2.size (by simp)) _
  have hD3 := (hD2.alloc (.cells (dig (sha s.data.toList)) 31)).alloc (.cells #[.slice (some ⟨w2.heap.size, 0, none⟩) 32 32, .slice A l.length cap] 177)
  clear hr2 hD2
  generalize (w2.alloc (.cells (dig (sha s.data.toList)) 31)).alloc (.cells #[.slice (some ⟨w2.heap.size, 0, none⟩) 32 32, .slice A l.length cap] 177) = w3 at hA3 hT hS hB3 hD3 ⊢
  refine (concat_two (w2.heap.size + 1) 0 2 (some ⟨w2.heap.size, 0, none⟩) A 32 cap 32 l.length (sha s.data.toList) l w3 (sha_length _).symm rfl (hS.cell 0) (hS.cell 1)
    (RdB.of_blk hT fun k hk => by rw [Nat.zero_add]; exact dig_get _ k hk) hA3 (by omega) (by omega)).mono ?_
  intro e w4 hp
  obtain ⟨M, hM⟩ : ∃ M, M = sha s.data.toList ++ l := ⟨_, rfl⟩
  have hMl : M.length = 32 + l.length := by rw [hM, List.length_append, sha_length]
  rw [← hM] at hp
  have HM := Lib.hid hM
  clear hM
  obtain ⟨v, rfl, hown, hb4⟩ := hp
  have hB4 := hB3.trans (hb4.mono hB3.size)
  have hD4 := hD3.below hb4 hD3.lt
  clear hT hS hA3 hD3 hb4
  have hform : ∃ g cap', v = .slice (some ⟨g, 0, none⟩) M.length cap' ∧ M.length ≤ cap' ∧ cap' ≤ maxLen := by
    rcases hown.2 with ⟨rfl, h0⟩ | ⟨g, cap', cur, rfl, _, _, h1, h2, _⟩
    · omega
    · exact ⟨g, cap', rfl, h1, h2⟩
  obtain ⟨g, cap', rfl, hg1, hg2⟩ := hform
  have hr4 := (RdB.of_own hown).2
  have hlen : M.length ≤ 281474976710656 := by omega
  unfold maxLen at hg2
  clear hown hMl
  go_wp2_with fail
  refine (sum_bytes M _ _ _ (hL.below hB4) hr4 hg1 hg2 hlen).mono ?_
  rintro e w5 ⟨rfl, hb5⟩
  have hB5 := hB4.trans (hb5.mono hB4.size)
  have hD5 := hD4.below hb5 hD4.lt
  clear hD4 hr4 hb5
  go_wp2_with (refine store_dig rfl _ _ rfl hD5 (sha M) (sha_length _) rfl rfl rfl ?_; intro w6 hD6 hO6 hz6)
  refine bodyPost_ret (results_cell_row rfl _ _ w.heap.size 31 _ (0, 0) _ rfl hD6 Tryz.underlying31 rfl (dig_info _ (sha_length _))) rfl ?_
  rw [tagged, ← HM.out]
  exact ⟨rfl, hB5.trans (hO6.toBelow hB5.size (Nat.le_refl _))⟩
end Go.Proofs.YtkkcbkfpaoldmaaGreatDoor

/- Walks: codec.numeral, codec.unsigned. -/
namespace Go.Proofs.YtkkcbkfpaoldmaaGreatDoor
open Go.RowKit

/-- The bytes l have come onto the slice v of the call's own. -/
def Onto (base : Nat) (v : Value) (n : Nat) (xs : List Value) (l : List UInt8) (w : World) (e : Ending) (w' : World) : Prop :=
  ∃ v', e = .returned v' ∧ w'.ownsRow base 5 1 v' (n + l.length) (xs ++ bcells l) ∧ Grew w w' v v'

set_option maxRecDepth 100000 in
set_option maxHeartbeats 1000000 in
theorem numeral_any (base : Nat) (v : Value) (n : Nat) (xs : List Value) (u : Nat) (w : World) (hown : w.ownsRow base 5 1 v n xs) (hbase : base ≤ w.heap.size) (hu : u < 18446744073709551616) (hn : n + 10 ≤ 140737488355328) :
    Calls Tryz.prog 153 #[v, .int .u64 u] w (Onto base v n xs (numB u) w) := by
  have hlen := numB_len10 u hu
  go_enter Tryz.func153, Tryz.ntmps153
  go_wp2_with fail
  go_loopw [0, 1] (fun b x wr => ∃ (u' : Nat) (done : List UInt8), numB u = done ++ numB u' ∧ u' < 18446744073709551616 ∧ x = .int .u64 u' ∧ wr.ownsRow base 5 1 b (n + done.length) (xs ++ bcells done) ∧ Grew w wr v b) (fun _ x _ => (intOf x).toNat)
  case atStart => exact ⟨u, [], rfl, hu, rfl, by simpa [bcells] using hown, Grew.refl _ _⟩
  case round =>
    obtain ⟨u', done, hd, hu', rfl, hown', hg⟩ := hrel
    have HD := Lib.hid hd
    have hdl : done.length ≤ 9 := by
      have h1 := congrArg List.length hd
      rw [List.length_append] at h1
      have h2 : 0 < (numB u').length := by
        rcases Nat.lt_or_ge u' 128 with h | h
        · rw [numB_small u' h]; simp
        · rw [numB_step u' h]; simp
      omega
    have hB : base ≤ wr.heap.size := Nat.le_trans hbase hg.1.size
    have HU := Lib.hid hu'
    clear hd hown hlen hu hu'
    by_cases hlt : u' < 128
    · go_wp2_with (at_builtin; refine app_byte rfl _ _ rfl base wr u0 _ _ rfl hown' (UInt8.ofNat u') _ (by first | exact u8_mod u' hlt | exact u8_id u' hlt) _ rfl (by omega) hB ?_; intro v2 w2 hown2 hg2)
      go_ret
      refine ⟨_, rfl, ?_, hg.trans hg2⟩
      rw [HD.out, numB_small u' hlt, bcells_append, List.length_append, ← List.append_assoc]
      exact hown2
    · have hge : 128 ≤ u' := by omega
      go_wp2_with (at_builtin; refine app_byte rfl _ _ rfl base wr u0 _ _ rfl hown' (UInt8.ofNat (u' % 128 + 128)) _ (or128 u') _ rfl (by omega) hB ?_; intro v2 w2 hown2 hg2)
      go_roundw
      case rel =>
        have hu' := HU.out
        refine ⟨u' / 128, done ++ [UInt8.ofNat (u' % 128 + 128)], ?_, by omega, rfl, ?_, hg.trans hg2⟩
        · rw [HD.out, numB_step u' hge]; simp
        · rw [bcells_append, List.length_append, ← List.append_assoc]
          exact hown2
      case measure => simp [intOf]; omega

theorem xor_zero (a : Int) (h0 : 0 ≤ a) (h1 : a < 9223372036854775808) : bits .xor .u64 a 0 = a := by
  show IntKind.u64.wrap ((BitVec.ofInt 64 a ^^^ BitVec.ofInt 64 0).toNat : Int) = a
  have e : BitVec.ofInt 64 a ^^^ BitVec.ofInt 64 0 = BitVec.ofInt 64 a := by
    rw [show BitVec.ofInt 64 0 = 0#64 from rfl, BitVec.xor_zero]
  rw [e, BitVec.toNat_ofInt]
  rw [IntKind.wrap_u64]
  omega
set_option maxRecDepth 100000 in
set_option maxHeartbeats 1000000 in
theorem unsigned_any (n : Nat) (w : World) (hn : n ≤ 4611686018427387000) :
    Calls Tryz.prog 154 #[.int .i64 n] w fun e w' => e = .returned (.int .u64 ((2 * n : Nat) : Int)) ∧ w = w' := by
  have hx := Lib.hid (xor_zero ((n : Int) * 2) (by omega) (by omega))
  have hd : (n : Int) / 9223372036854775808 = 0 := by omega
  go_enter Tryz.func154, Tryz.ntmps154
  go_wp2
  go_ret
  refine ⟨?_, rfl⟩
  show Ending.returned (.int .u64 (bits .xor .u64 ((n : Int) * 2) 0)) = _
  rw [hx.out, show ((2 * n : Nat) : Int) = (n : Int) * 2 from by omega]
end Go.Proofs.YtkkcbkfpaoldmaaGreatDoor

/- Walks: codec.newWriter and its closures. -/
namespace Go.Proofs.YtkkcbkfpaoldmaaGreatDoor
open Go.RowKit

/-- The table of the writers lies in block gt, the variable that holds its address in block gb. -/
structure Writer (w : World) (gb gt : Nat) : Prop where
  box : w.cell? ⟨gb, 0, none⟩ = some (.pointer (some ⟨gt, 0, none⟩))
  one : w.cell? ⟨gt, 1, none⟩ = some (.func (.func 152) #[] #[])
  two : w.cell? ⟨gt, 2, none⟩ = some (.func (.func 155) #[] #[])
  three : w.cell? ⟨gt, 3, none⟩ = some (.func (.func 156) #[] #[.pointer (some ⟨gb, 0, none⟩)])
theorem Writer.below {w w' : World} {gb gt B : Nat} (h : Writer w gb gt) (hb : Below B w w') (h1 : gb < B) (h2 : gt < B) : Writer w' gb gt :=
  ⟨(hb.cell (p := ⟨gb, 0, none⟩) h1).trans h.box, (hb.cell (p := ⟨gt, 1, none⟩) h2).trans h.one, (hb.cell (p := ⟨gt, 2, none⟩) h2).trans h.two, (hb.cell (p := ⟨gt, 3, none⟩) h2).trans h.three⟩

def NewWriterPost (w : World) (e : Ending) (w' : World) : Prop := ∃ gb gt, e = .returned (.pointer (some ⟨gt, 0, none⟩)) ∧ Writer w' gb gt ∧ gb < w'.heap.size ∧ gt < w'.heap.size ∧ Below w.heap.size w w'
set_option maxRecDepth 100000 in
set_option maxHeartbeats 1000000 in
theorem newWriter_any (w : World) : Calls Tryz.prog 147 #[] w (NewWriterPost w) := by
  go_enter Tryz.func147, Tryz.ntmps147
  go_wp2
  go_ret
  refine ⟨w.heap.size + 1, w.heap.size, rfl, ⟨?_, ?_, ?_, ?_⟩, by simp, by simp only [World.size_alloc]; omega, ((Below.refl _ w).alloc (Nat.le_refl _) _).alloc (by simp) _⟩
  all_goals go_simp

/-- The four cells of a value that is an integer. -/
def NwPost (base : Nat) (v : Value) (n : Nat) (xs : List Value) (l : List UInt8) (w : World) (e : Ending) (w' : World) : Prop := Onto base v n xs l w e w'
set_option maxRecDepth 100000 in
set_option maxHeartbeats 1000000 in
theorem nw1_any (base : Nat) (v : Value) (n : Nat) (xs : List Value) (k : Nat) (v0 v2 v3 : Value) (w : World) (hown : w.ownsRow base 5 1 v n xs) (hbase : base ≤ w.heap.size) (hk : k ≤ 4611686018427387000) (hn : n + 11 ≤ 140737488355328) :
    Calls Tryz.prog 152 #[v, .agg #[v0, .int .i64 k, v2, v3]] w (Onto base v n xs (intB k) w) := by
  go_enter Tryz.func152, Tryz.ntmps152
  go_wp2_with fail
  have hc : (w.alloc (.cells #[v0, .int .i64 k, v2, v3] 194)).cell? ⟨w.heap.size, 1, none⟩ = some (.int .i64 k) := (Blk.new w _ _).cell 1
  have hown1 := hown.alloc (.cells #[v0, .int .i64 k, v2, v3] 194)
  have hg1 : Grew w (w.alloc (.cells #[v0, .int .i64 k, v2, v3] 194)) v v := Grew.of_below ((Below.refl _ w).alloc (Nat.le_refl _) _) v
  have hb1 : base ≤ (w.alloc (.cells #[v0, .int .i64 k, v2, v3] 194)).heap.size := by simp; omega
  have hlt : w.heap.size < (w.alloc (.cells #[v0, .int .i64 k, v2, v3] 194)).heap.size := by simp
  generalize w.alloc (.cells #[v0, .int .i64 k, v2, v3] 194) = w1 at hc hown1 hg1 hb1 hlt ⊢
  have hvk : some w.heap.size ≠ v.ownBlock := fun e => by have := (hown.lt _ e.symm).2; omega
  go_region_held3 (fun w' => w'.cell? ⟨w.heap.size, 1, none⟩ = some (.int .i64 k)) (first | exact hc3 | exact hc2 | go_keep)
    ((first
      | (refine step_app rfl _ _ 177 rfl base _ v n xs (own_drew (hown1.alloc _)) rfl _ 1 [B8 1] (src_byte 1 1 rfl (Blk.new _ _ _)) rfl (by omega) (by simp; omega) ?_; intro v2 w2 hown2 hg2; have hc2 := hg2.1.cell (a := ⟨w.heap.size, 1, none⟩) (v := .int .i64 k) ((World.cell?_alloc_lt _ _ _ hlt).trans hc) hvk; have hb2 := hg2.1.size; have hv2k := hg2.ne (g := w.heap.size) (by simp; omega) hvk)
      | (go_at_call 154; refine (unsigned_any k _ (by omega)).mono ?_; rintro e w' ⟨rfl, rfl⟩)
      | (go_at_call 153; refine (numeral_any base v2 (n + 1) (xs ++ [B8 1]) (2 * k) _ hown2 (by simp at hb2; omega) (by omega) (by omega)).mono ?_; rintro e w3 ⟨v3, rfl, hown3, hg3⟩; have hc3 := hg3.1.cell (a := ⟨w.heap.size, 1, none⟩) hc2 hv2k)))
  go_wp2
  go_ret
  refine ⟨v3, rfl, ?_, hg1.trans (((Grew.of_below (((Below.refl _ w1).alloc (Nat.le_refl _) _).drew) v).trans hg2).trans hg3)⟩
  rw [intB, List.length_cons, Nat.add_comm _ 1, ← Nat.add_assoc, bcells_cons]
  simpa using hown3

set_option maxRecDepth 100000 in
set_option maxHeartbeats 1000000 in
theorem nw2_any (base : Nat) (v : Value) (n : Nat) (xs : List Value) (s : ByteArray) (v0 v1 vl : Value) (w : World) (hown : w.ownsRow base 5 1 v n xs) (hbase : base ≤ w.heap.size) (hn : n + s.size + 11 ≤ 140737488355328) :
    Calls Tryz.prog 155 #[v, .agg #[v0, v1, .string s, vl]] w (Onto base v n xs (textB s.data.toList) w) := by
  go_enter Tryz.func155, Tryz.ntmps155
  go_wp2_with fail
  have hc : (w.alloc (.cells #[v0, v1, .string s, vl] 194)).cell? ⟨w.heap.size, 2, none⟩ = some (.string s) := (Blk.new w _ _).cell 2
  have hown1 := hown.alloc (.cells #[v0, v1, .string s, vl] 194)
  have hg1 : Grew w (w.alloc (.cells #[v0, v1, .string s, vl] 194)) v v := Grew.of_below ((Below.refl _ w).alloc (Nat.le_refl _) _) v
  have hb1 : base ≤ (w.alloc (.cells #[v0, v1, .string s, vl] 194)).heap.size := by simp; omega
  have hlt : w.heap.size < (w.alloc (.cells #[v0, v1, .string s, vl] 194)).heap.size := by simp
  generalize w.alloc (.cells #[v0, v1, .string s, vl] 194) = w1 at hc hown1 hg1 hb1 hlt ⊢
  have hvk : some w.heap.size ≠ v.ownBlock := fun e => by have := (hown.lt _ e.symm).2; omega
  have hwr : IntKind.u64.wrap (s.size : Int) = s.size := by rw [IntKind.wrap_u64]; omega
  go_region_held3 (fun w' => w'.cell? ⟨w.heap.size, 2, none⟩ = some (.string s)) (first | exact hc4 | exact hc3 | exact hc2 | go_keep)
    ((first
      | (refine step_app rfl _ _ 177 rfl base _ v n xs (own_drew (hown1.alloc _)) rfl _ 1 [B8 2] (src_byte 2 2 rfl (Blk.new _ _ _)) rfl (by omega) (by simp; omega) ?_; intro v2 w2 hown2 hg2; have hc2 := hg2.1.cell (a := ⟨w.heap.size, 2, none⟩) (v := .string s) ((World.cell?_alloc_lt _ _ _ hlt).trans hc) hvk; have hb2 := hg2.1.size; have hv2k := hg2.ne (g := w.heap.size) (by simp; omega) hvk)
      | (go_at_call 153; refine (numeral_any base v2 (n + 1) (xs ++ [B8 2]) s.size _ hown2 (by simp at hb2; omega) (by omega) (by omega)).mono ?_; rintro e w3 ⟨v3, rfl, hown3, hg3⟩; have hc3 := hg3.1.cell (a := ⟨w.heap.size, 2, none⟩) hc2 hv2k; have hb3 := hg3.1.size; have hv3k := hg3.ne (g := w.heap.size) (by simp at hb2; omega) hv2k)
      | (refine step_app rfl _ _ 9 rfl base _ v3 _ _ hown3 rfl _ s.size _ (src_string _ s) rfl (by have := numB_len10 s.size (by omega); omega) (by simp at hb2; omega) ?_; intro v4 w4 hown4 hg4; have hc4 := hg4.1.cell (a := ⟨w.heap.size, 2, none⟩) hc3 hv3k)))
  clear hwr
  go_wp2
  go_ret
  refine ⟨v4, rfl, ?_, (hg1.trans (((Grew.of_below (((Below.refl _ w1).alloc (Nat.le_refl _) _).drew) v).trans hg2).trans hg3)).trans hg4⟩
  have e1 : (textB s.data.toList).length = 1 + (numB s.size).length + s.size := by
    rw [textB, List.length_cons, List.length_append]
    show (numB s.size).length + s.size + 1 = _
    omega
  have e2 : bcells (textB s.data.toList) = [B8 2] ++ bcells (numB s.size) ++ bcells s.data.toList := by
    rw [textB, bcells_cons, bcells_append]
    rfl
  rw [e1, e2, ← Nat.add_assoc, ← Nat.add_assoc]
  simpa using hown4
end Go.Proofs.YtkkcbkfpaoldmaaGreatDoor

/- Several texts in one: W9, W10. -/
/- Walk: codec.formed. -/
namespace Go.Proofs.YtkkcbkfpaoldmaaGreatDoor
open Go.RowKit

def FormedPost (d : Nat) (w : World) (e : Ending) (w' : World) : Prop := (∃ d' : Nat, d' ≤ d ∧ e = .returned (.tuple #[.int .i64 d', .bool true])) ∧ Below w.heap.size w w'
set_option maxRecDepth 100000 in
set_option maxHeartbeats 1000000 in
theorem formed_int (k : Nat) (w : World) : Calls Tryz.prog 151 #[.agg #[.int .i64 1, .int .i64 k, .string ⟨#[]⟩, .slice none 0 0]] w (FormedPost 0 w) := by
  go_enter Tryz.func151, Tryz.ntmps151
  go_wp2
  all_goals
    go_ret2
    exact ⟨⟨0, Nat.le_refl _, rfl⟩, ((Below.refl _ w).alloc (Nat.le_refl _) _).alloc (by simp) _⟩
set_option maxRecDepth 100000 in
set_option maxHeartbeats 1000000 in
theorem formed_text (s : ByteArray) (w : World) : Calls Tryz.prog 151 #[.agg #[.int .i64 2, .int .i64 0, .string s, .slice none 0 0]] w (FormedPost 0 w) := by
  go_enter Tryz.func151, Tryz.ntmps151
  go_wp2
  all_goals
    go_ret2
    exact ⟨⟨0, Nat.le_refl _, rfl⟩, ((Below.refl _ w).alloc (Nat.le_refl _) _).alloc (by simp) _⟩

/-- The four cells of a value: its kind and three more. -/
structure V4 where
  kind : Nat
  n : Value
  s : Value
  l : Value
def V4.agg (x : V4) : Value := .agg #[.int .i64 x.kind, x.n, x.s, x.l]
def V4.int (k : Nat) : V4 := ⟨1, .int .i64 k, .string ⟨#[]⟩, .slice none 0 0⟩
def V4.text (s : ByteArray) : V4 := ⟨2, .int .i64 0, .string s, .slice none 0 0⟩
def V4.list (A : Option Addr) (m c : Nat) : V4 := ⟨3, .int .i64 0, .string ⟨#[]⟩, .slice A m c⟩
/-- The slice at A holds these values. -/
def Elems (w : World) (B : Nat) (A : Option Addr) (l : List V4) : Prop :=
  0 < l.length → ∃ b off, A = some ⟨b, off, none⟩ ∧ b < B ∧ ∀ i x, l[i]? = some x →
    w.cell? ⟨b, off + i * 4, none⟩ = some (.int .i64 x.kind) ∧ w.cell? ⟨b, off + i * 4 + 1, none⟩ = some x.n ∧ w.cell? ⟨b, off + i * 4 + 2, none⟩ = some x.s ∧ w.cell? ⟨b, off + i * 4 + 3, none⟩ = some x.l
theorem Elems.below {w w' : World} {B : Nat} {A : Option Addr} {l : List V4} (h : Elems w B A l) (hb : Below B w w') : Elems w' B A l := fun hn => by
  obtain ⟨b, off, e, hB, hc⟩ := h hn
  refine ⟨b, off, e, hB, fun i x hi => ?_⟩
  obtain ⟨h0, h1, h2, h3⟩ := hc i x hi
  exact ⟨(hb.cell (p := ⟨b, _, none⟩) hB).trans h0, (hb.cell (p := ⟨b, _, none⟩) hB).trans h1, (hb.cell (p := ⟨b, _, none⟩) hB).trans h2, (hb.cell (p := ⟨b, _, none⟩) hB).trans h3⟩

theorem one4 (k : Int) (a b c : Value) (ha : a.oneCell' = true) (hb : b.oneCell' = true) (hc : c.oneCell' = true) : (#[.int .i64 k, a, b, c] : Array Value).all (·.oneCell') = true :=
  Array.all_eq_true_iff_forall_mem.2 fun v hv => by
    have hv' : v = .int .i64 k ∨ v = a ∨ v = b ∨ v = c := by simpa using hv
    rcases hv' with rfl | rfl | rfl | rfl
    · rfl
    · exact ha
    · exact hb
    · exact hc
theorem valueSize : (Tryz.prog.info? 194).map (·.size) = some 4 := by kernel_rfl
def IsFormed (w : World) (x : V4) (d : Nat) : Prop := ∀ w', Below w.heap.size w w' → Calls Tryz.prog 151 #[x.agg] w' (FormedPost d w')

set_option maxRecDepth 100000 in
set_option maxHeartbeats 1000000 in
theorem formed_list (A : Option Addr) (l : List V4) (c d : Nat) (w : World) (hE : Elems w w.heap.size A l) (hl : l.length ≤ c) (hc : c ≤ 9223372036854775807) (hd : d ≤ 1000000)
    (h1 : ∀ x ∈ l, x.n.oneCell' = true ∧ x.s.oneCell' = true ∧ x.l.oneCell' = true) (hf : ∀ x ∈ l, IsFormed w x d) :
    Calls Tryz.prog 151 #[(V4.list A l.length c).agg] w (FormedPost (d + 1) w) := by
  show Calls Tryz.prog 151 #[.agg #[.int .i64 3, .int .i64 0, .string ⟨#[]⟩, .slice A l.length c]] w (FormedPost (d + 1) w)
  obtain ⟨m, hm⟩ : ∃ m, m = l.length := ⟨_, rfl⟩
  rw [← hm] at hl ⊢
  have HM := Lib.hid hm
  have HF := Lib.hid hf
  have H1 := Lib.hid h1
  clear hm hf h1
  by_cases h0 : m = 0
  · subst h0
    clear hE hl hc hd
    go_enter Tryz.func151, Tryz.ntmps151
    go_wp2_with fail
    go_loop [2, 57] (fun D i => D = .int .i64 0 ∧ i = .int .i64 0) (fun _ _ => 0)
    case atStart => exact ⟨rfl, rfl⟩
    case round =>
      obtain ⟨rfl, rfl⟩ := hrel
      go_wp2_with fail
      go_ret2
      exact ⟨⟨1, by omega, rfl⟩, ((Below.refl _ w).alloc (Nat.le_refl _) _).alloc (by simp) _⟩
  · have hp : 0 < m := by omega
    clear h0
    obtain ⟨b, off, rfl, hbl, hcells⟩ := hE (by rw [← HM.out]; exact hp)
    have HE := Lib.hid hcells
    clear hcells hE
    go_enter Tryz.func151, Tryz.ntmps151
    go_wp2_with fail
    go_loopw [2, 57] (fun D i wr => ∃ j d' : Nat, j ≤ m ∧ i = .int .i64 j ∧ d' ≤ d ∧ D = .int .i64 d' ∧ Below w.heap.size w wr) (fun _ i _ => m - (intOf i).toNat)
    case atStart => exact ⟨0, 0, by omega, rfl, by omega, rfl, ((Below.refl _ w).alloc (Nat.le_refl _) _).alloc (by simp) _⟩
    case round =>
      obtain ⟨j, d', hj, rfl, hd', rfl, hB⟩ := hrel
      by_cases hlt : j < m
      · obtain ⟨x, hx⟩ : ∃ x, l[j]? = some x := ⟨_, List.getElem?_eq_getElem (by rw [← HM.out]; exact hlt)⟩
        obtain ⟨c0, c1, c2, c3⟩ := HE.out j x hx
        have c0' := (hB.cell (p := ⟨b, _, none⟩) hbl).trans c0
        have c1' := (hB.cell (p := ⟨b, _, none⟩) hbl).trans c1
        have c2' := (hB.cell (p := ⟨b, _, none⟩) hbl).trans c2
        have c3' := (hB.cell (p := ⟨b, _, none⟩) hbl).trans c3
        have hmem := List.mem_of_getElem? hx
        have hone : (#[.int .i64 x.kind, x.n, x.s, x.l] : Array Value).all (·.oneCell') = true := by
          have := H1.out x hmem
          exact one4 _ _ _ _ this.1 this.2.1 this.2.2
        have HO := Lib.hid hone
        have HX := Lib.hid hx
        clear c0 c1 c2 c3 hone hx
        go_wp2_with (refine wpList_store_new rfl 194 _ _ rfl wr _ #[.int .i64 x.kind, x.n, x.s, x.l] 194 rfl rfl valueSize rfl HO.out ?_)
        have hB1 := hB.alloc hB.size (.cells #[.int .i64 x.kind, x.n, x.s, x.l] 194)
        refine (HF.out x hmem _ hB1).mono ?_
        rintro e w2 ⟨⟨d2, hd2, rfl⟩, hb2⟩
        have hB2 := hB1.trans (hb2.mono hB1.size)
        clear c0' c1' c2' c3' hB1 hb2 hB
        go_wp2_with fail
        go_roundw
        case rel => exact ⟨j + 1, max d' d2, by omega, by go_num, by omega, by first | rfl | (congr 1; omega), hB2⟩
        case measure => simp [intOf]; omega
      · obtain rfl : j = m := by omega
        go_wp2_with fail
        go_ret2
        exact ⟨⟨d' + 1, by omega, rfl⟩, hB⟩
end Go.Proofs.YtkkcbkfpaoldmaaGreatDoor

/- Walk: the writer of lists. -/
namespace Go.Proofs.YtkkcbkfpaoldmaaGreatDoor
open Go.RowKit

/-- The call by which a value of this kind is written. -/
def writeCall (k gb : Nat) (v x : Value) (w : World) (R : Ending → World → Prop) : Prop :=
  if k = 1 then Calls Tryz.prog 152 #[v, x] w R
  else if k = 2 then Calls Tryz.prog 155 #[v, x] w R
  else Calls Tryz.prog 156 #[v, x, .pointer (some ⟨gb, 0, none⟩)] w R
/-- The value x is written as the bytes e, in whatever world in which what lies below B is as in w. -/
def IsWritten (w : World) (x : V4) (e : List UInt8) : Prop :=
  ∀ (w' : World) (base gb gt : Nat) (v : Value) (n : Nat) (xs : List Value), Below w.heap.size w w' → w.heap.size ≤ base → base ≤ w'.heap.size → Writer w' gb gt → gb < base → gt < base →
    w'.ownsRow base 5 1 v n xs → n + e.length + 16 ≤ 140737488355328 → writeCall x.kind gb v x.agg w' (Onto base v n xs e w')
theorem written_int (w : World) (k : Nat) (hk : k ≤ 4611686018427387000) : IsWritten w (V4.int k) (intB k) := by
  intro w' base gb gt v n xs _ _ hb _ _ _ hown hn
  exact nw1_any base v n xs k _ _ _ w' hown hb hk (by rw [intB, List.length_cons] at hn; omega)
theorem written_text (w : World) (s : ByteArray) : IsWritten w (V4.text s) (textB s.data.toList) := by
  intro w' base gb gt v n xs _ _ hb _ _ _ hown hn
  refine nw2_any base v n xs s _ _ _ w' hown hb ?_
  rw [textB, List.length_cons, List.length_append] at hn
  have : s.data.toList.length = s.size := rfl
  omega

def kindOk (x : V4) : Prop := x.kind = 1 ∨ x.kind = 2 ∨ x.kind = 3

set_option maxRecDepth 100000 in
set_option maxHeartbeats 2000000 in
theorem nw3_any (A : Option Addr) (l : List V4) (es : List (List UInt8)) (c : Nat) (w w' : World) (base gb gt : Nat) (v : Value) (n : Nat) (xs : List Value) (hes : l.length = es.length)
    (hE : Elems w w.heap.size A l) (hl : l.length ≤ c) (hm47 : l.length ≤ 140737488355328)
    (h1 : ∀ x ∈ l, x.n.oneCell' = true ∧ x.s.oneCell' = true ∧ x.l.oneCell' = true) (hk : ∀ x ∈ l, kindOk x) (hw : ∀ (i : Nat) x e, l[i]? = some x → es[i]? = some e → IsWritten w x e)
    (hB : Below w.heap.size w w') (hwb : w.heap.size ≤ base) (hbase : base ≤ w'.heap.size) (hW : Writer w' gb gt) (hgb : gb < base) (hgt : gt < base) (hown : w'.ownsRow base 5 1 v n xs) (hn : n + (listB es).length + 16 ≤ 140737488355328) :
    Calls Tryz.prog 156 #[v, (V4.list A l.length c).agg, .pointer (some ⟨gb, 0, none⟩)] w' (Onto base v n xs (listB es) w') := by
  show Calls Tryz.prog 156 #[v, .agg #[.int .i64 3, .int .i64 0, .string ⟨#[]⟩, .slice A l.length c], .pointer (some ⟨gb, 0, none⟩)] w' (Onto base v n xs (listB es) w')
  obtain ⟨m, hm⟩ : ∃ m, m = l.length := ⟨_, rfl⟩
  rw [← hm] at hl hm47 hes ⊢
  have HM := Lib.hid hm
  have HES := Lib.hid hes
  have HW := Lib.hid hw
  have HK := Lib.hid hk
  have H1 := Lib.hid h1
  have hnl : (numB m).length ≤ 10 := numB_len10 m (by omega)
  have HNL := Lib.hid hnl
  have hll : (listB es).length = 1 + (numB m).length + es.flatten.length := by rw [listB, List.length_cons, List.length_append, ← hes]; omega
  have HLL := Lib.hid hll
  clear hm hw hk h1 hnl hll hes
  have hc3 : (w'.alloc (.cells #[.int .i64 3, .int .i64 0, .string ⟨#[]⟩, .slice A m c] 194)).cell? ⟨w'.heap.size, 3, none⟩ = some (.slice A m c) := (Blk.new w' _ _).cell 3
  have hown1 := hown.alloc (.cells #[.int .i64 3, .int .i64 0, .string ⟨#[]⟩, .slice A m c] 194)
  have hg1 : Grew w' (w'.alloc (.cells #[.int .i64 3, .int .i64 0, .string ⟨#[]⟩, .slice A m c] 194)) v v := Grew.of_below ((Below.refl _ w').alloc (Nat.le_refl _) _) v
  have hlt : w'.heap.size < (w'.alloc (.cells #[.int .i64 3, .int .i64 0, .string ⟨#[]⟩, .slice A m c] 194)).heap.size := by simp
  have hb1 : base ≤ (w'.alloc (.cells #[.int .i64 3, .int .i64 0, .string ⟨#[]⟩, .slice A m c] 194)).heap.size := by simp; omega
  have hvk : some w'.heap.size ≠ v.ownBlock := fun e => by have := (hown.lt _ e.symm).2; omega
  have hwr : IntKind.u64.wrap (m : Int) = m := by rw [IntKind.wrap_u64]; omega
  go_enter Tryz.func156, Tryz.ntmps156
  go_wp2_with fail
  generalize w'.alloc (.cells #[.int .i64 3, .int .i64 0, .string ⟨#[]⟩, .slice A m c] 194) = w1 at hc3 hown1 hg1 hb1 hlt ⊢
  go_region_held3 (fun W => W.cell? ⟨w'.heap.size, 3, none⟩ = some (.slice A m c)) (first | exact hc4 | exact hc2 | go_keep)
    ((first
      | (refine step_app rfl _ _ 177 rfl base _ v n xs (own_drew (hown1.alloc _)) rfl _ 1 [B8 3] (src_byte 3 3 rfl (Blk.new _ _ _)) rfl (by omega) (by simp; omega) ?_; intro v2 w2 hown2 hg2; have hc2 := hg2.1.cell (a := ⟨w'.heap.size, 3, none⟩) (v := .slice A m c) ((World.cell?_alloc_lt _ _ _ hlt).trans hc3) hvk; have hb2 := hg2.1.size; have hv2k := hg2.ne (g := w'.heap.size) (by simp; omega) hvk)
      | (go_at_call 153; refine (numeral_any base v2 (n + 1) (xs ++ [B8 3]) m _ hown2 (by simp at hb2; omega) (by omega) (by omega)).mono ?_; rintro e w3 ⟨v3, rfl, hown3, hg3⟩; have hc4 := hg3.1.cell (a := ⟨w'.heap.size, 3, none⟩) hc2 hv2k)))
-- LOOP
  have hG3 : Grew w' w3 v v3 := hg1.trans (((Grew.of_below (((Below.refl _ w1).alloc (Nat.le_refl _) _).drew) v).trans hg2).trans hg3)
  have hvb : ∀ k, v.ownBlock = some k → base ≤ k := fun k hk => (hown.lt k hk).1
  have hbA : w'.heap.size < w3.heap.size := by have := hg3.1.size; simp at hb2; omega
  clear hown1 hg1 hb1 hlt hvk hwr hc3 hown2 hg2 hc2 hb2 hv2k hg3
  go_wp2_with fail
  go_loopw [0, 19] (fun b i wr => ∃ j : Nat, j ≤ m ∧ i = .int .i64 j ∧ wr.ownsRow base 5 1 b (n + 1 + (numB m).length + (es.take j).flatten.length) (xs ++ [B8 3] ++ bcells (numB m) ++ bcells (es.take j).flatten) ∧ Grew w' wr v b ∧ w'.heap.size < wr.heap.size) (fun _ i _ => m - (intOf i).toNat)
  case atStart => exact ⟨0, by omega, rfl, by simpa [bcells] using hown3, hG3, hbA⟩
  case round =>
    clear hown3 hG3 hc4
    obtain ⟨j, hj, rfl, hown3, hG, hbA⟩ := hrel
    have hBw' : Below base w' wr := hG.below hbase hvb
    have hBw : Below w.heap.size w wr := hB.trans (hBw'.mono hwb)
    by_cases hlt : j < m
    · obtain ⟨x, hx⟩ : ∃ x, l[j]? = some x := ⟨_, List.getElem?_eq_getElem (by rw [← HM.out]; exact hlt)⟩
      obtain ⟨e, he⟩ : ∃ e, es[j]? = some e := ⟨_, List.getElem?_eq_getElem (by rw [← HES.out]; exact hlt)⟩
      obtain ⟨b, off, rfl, hbl, hcells⟩ := hE (by have := HM.out; omega)
      obtain ⟨c0, c1, c2, c3⟩ := hcells j x hx
      have c0' := (hBw.cell (p := ⟨b, _, none⟩) hbl).trans c0
      have c1' := (hBw.cell (p := ⟨b, _, none⟩) hbl).trans c1
      have c2' := (hBw.cell (p := ⟨b, _, none⟩) hbl).trans c2
      have c3' := (hBw.cell (p := ⟨b, _, none⟩) hbl).trans c3
      have hmem := List.mem_of_getElem? hx
      have h1 := H1.out x hmem
      have HO := Lib.hid (one4 x.kind _ _ _ h1.1 h1.2.1 h1.2.2)
      have hflat : (es.take (j + 1)).flatten = (es.take j).flatten ++ e := by
        rw [List.take_add_one, he, List.flatten_append]; simp
      have hle : (es.take (j + 1)).flatten.length ≤ es.flatten.length := by
        conv => rhs; rw [← List.take_append_drop (j + 1) es, List.flatten_append, List.length_append]
        omega
      have hwrite := fun W hW hBW hWr hO => HW.out j x e hx he W base gb gt u0 (n + 1 + (numB m).length + (es.take j).flatten.length) (xs ++ [B8 3] ++ bcells (numB m) ++ bcells (es.take j).flatten) hBW hwb hW hWr hgb hgt hO
        (by rw [hflat, List.length_append] at hle; have := HLL.out; omega)
      have HWR := Lib.hid hwrite
      have HF := Lib.hid hflat
      have hkind := HK.out x hmem
      clear c0 c1 c2 c3 hcells h1 hx he hflat hle hwrite hmem
      obtain ⟨kx, nx, sx, lx⟩ := x
      rcases hkind with hkx | hkx | hkx
      · obtain rfl : kx = 1 := hkx
        have hc0 : wr.cell? ⟨b, off + j * 4, none⟩ = some (.int .i64 1) := c0'
        have hc1 : wr.cell? ⟨b, off + j * 4 + 1, none⟩ = some nx := c1'
        have hc2 : wr.cell? ⟨b, off + j * 4 + 2, none⟩ = some sx := c2'
        have hc3 : wr.cell? ⟨b, off + j * 4 + 3, none⟩ = some lx := c3'
        have HOk : Hid ((#[.int .i64 1, nx, sx, lx] : Array Value).all (·.oneCell') = true) := HO
        clear c0' c1' c2' c3' HO
        have hWr : Writer wr gb gt := hW.below hBw' hgb hgt
        have hgb' : gb < wr.heap.size := by omega
        have hgt' : gt < wr.heap.size := by omega
        have hW4 : Writer (wr.alloc (.cells #[.int .i64 1, nx, sx, lx] 194)) gb gt := hWr.below ((Below.refl wr.heap.size wr).alloc (Nat.le_refl _) _) hgb' hgt'
        have hX4 : Blk (wr.alloc (.cells #[.int .i64 1, nx, sx, lx] 194)) wr.heap.size 194 #[.int .i64 1, nx, sx, lx] := Blk.new _ _ _
        have hO4 := hown3.alloc (.cells #[.int .i64 1, nx, sx, lx] 194)
        have hB4 : Below wr.heap.size wr (wr.alloc (.cells #[.int .i64 1, nx, sx, lx] 194)) := (Below.refl _ wr).alloc (Nat.le_refl _) _
        clear hWr
        go_wp2_with (refine wpList_store_new rfl 194 _ _ rfl wr _ #[.int .i64 1, nx, sx, lx] 194 rfl rfl valueSize rfl HOk.out ?_)
        generalize wr.alloc (.cells #[.int .i64 1, nx, sx, lx] 194) = w4 at hW4 hX4 hO4 hB4 ⊢
        have d0 : w4.cell? ⟨wr.heap.size, 0, none⟩ = some (.int .i64 1) := hX4.cell 0
        have d1 : w4.cell? ⟨wr.heap.size, 1, none⟩ = some nx := hX4.cell 1
        have d2 : w4.cell? ⟨wr.heap.size, 2, none⟩ = some sx := hX4.cell 2
        have d3 : w4.cell? ⟨wr.heap.size, 3, none⟩ = some lx := hX4.cell 3
        have g0 := hW4.box
        have g1 := hW4.one
        clear hc0 hc1 hc2 hc3 HOk
        refine wp_region_still_tail 9 (by kernel_rfl) (by kernel_rfl) ?_
        simp only [List.take_succ_cons, List.take_zero, List.drop_succ_cons, List.drop_zero]
        show wpStill _ _ (World.drew _) _ _ _
        repeat still_step
        refine wpStill_nil ?_
        show wpList _ _ _ _ _ (World.drew _)
        clear d0 d1 d2 d3 g0 g1
        go_wp2_with fail
        have hcall := HWR.out w4.drew (Nat.le_trans (Nat.le_trans hbase (Nat.le_of_lt hbA)) hB4.size) ((hBw.trans (hB4.mono hBw.size)).drew) ⟨hW4.box, hW4.one, hW4.two, hW4.three⟩ (own_drew hO4)
        have hcall' : Calls Tryz.prog 152 #[u0, .agg #[.int .i64 1, nx, sx, lx]] w4.drew _ := hcall
        refine hcall'.mono ?_
        rintro e5 w5 ⟨v5, rfl, hown5, hg5⟩
        clear hcall hcall'
        go_wp2_with fail
        go_roundw
        case rel =>
          refine ⟨j + 1, by omega, by go_num, ?_, (hG.trans (Grew.of_below hB4.drew u0)).trans hg5, Nat.lt_of_lt_of_le hbA (Nat.le_trans hB4.size hg5.1.size)⟩
          rw [HF.out, List.length_append, bcells_append, ← Nat.add_assoc, ← List.append_assoc]
          exact hown5
        case measure => simp [intOf]; omega
      · obtain rfl : kx = 2 := hkx
        have hc0 : wr.cell? ⟨b, off + j * 4, none⟩ = some (.int .i64 2) := c0'
        have hc1 : wr.cell? ⟨b, off + j * 4 + 1, none⟩ = some nx := c1'
        have hc2 : wr.cell? ⟨b, off + j * 4 + 2, none⟩ = some sx := c2'
        have hc3 : wr.cell? ⟨b, off + j * 4 + 3, none⟩ = some lx := c3'
        have HOk : Hid ((#[.int .i64 2, nx, sx, lx] : Array Value).all (·.oneCell') = true) := HO
        clear c0' c1' c2' c3' HO
        have hWr : Writer wr gb gt := hW.below hBw' hgb hgt
        have hgb' : gb < wr.heap.size := by omega
        have hgt' : gt < wr.heap.size := by omega
        have hW4 : Writer (wr.alloc (.cells #[.int .i64 2, nx, sx, lx] 194)) gb gt := hWr.below ((Below.refl wr.heap.size wr).alloc (Nat.le_refl _) _) hgb' hgt'
        have hX4 : Blk (wr.alloc (.cells #[.int .i64 2, nx, sx, lx] 194)) wr.heap.size 194 #[.int .i64 2, nx, sx, lx] := Blk.new _ _ _
        have hO4 := hown3.alloc (.cells #[.int .i64 2, nx, sx, lx] 194)
        have hB4 : Below wr.heap.size wr (wr.alloc (.cells #[.int .i64 2, nx, sx, lx] 194)) := (Below.refl _ wr).alloc (Nat.le_refl _) _
        clear hWr
        go_wp2_with (refine wpList_store_new rfl 194 _ _ rfl wr _ #[.int .i64 2, nx, sx, lx] 194 rfl rfl valueSize rfl HOk.out ?_)
        generalize wr.alloc (.cells #[.int .i64 2, nx, sx, lx] 194) = w4 at hW4 hX4 hO4 hB4 ⊢
        have d0 : w4.cell? ⟨wr.heap.size, 0, none⟩ = some (.int .i64 2) := hX4.cell 0
        have d1 : w4.cell? ⟨wr.heap.size, 1, none⟩ = some nx := hX4.cell 1
        have d2 : w4.cell? ⟨wr.heap.size, 2, none⟩ = some sx := hX4.cell 2
        have d3 : w4.cell? ⟨wr.heap.size, 3, none⟩ = some lx := hX4.cell 3
        have g0 := hW4.box
        have g1 := hW4.two
        clear hc0 hc1 hc2 hc3 HOk
        refine wp_region_still_tail 9 (by kernel_rfl) (by kernel_rfl) ?_
        simp only [List.take_succ_cons, List.take_zero, List.drop_succ_cons, List.drop_zero]
        show wpStill _ _ (World.drew _) _ _ _
        repeat still_step
        refine wpStill_nil ?_
        show wpList _ _ _ _ _ (World.drew _)
        clear d0 d1 d2 d3 g0 g1
        go_wp2_with fail
        have hcall := HWR.out w4.drew (Nat.le_trans (Nat.le_trans hbase (Nat.le_of_lt hbA)) hB4.size) ((hBw.trans (hB4.mono hBw.size)).drew) ⟨hW4.box, hW4.one, hW4.two, hW4.three⟩ (own_drew hO4)
        have hcall' : Calls Tryz.prog 155 #[u0, .agg #[.int .i64 2, nx, sx, lx]] w4.drew _ := hcall
        refine hcall'.mono ?_
        rintro e5 w5 ⟨v5, rfl, hown5, hg5⟩
        clear hcall hcall'
        go_wp2_with fail
        go_roundw
        case rel =>
          refine ⟨j + 1, by omega, by go_num, ?_, (hG.trans (Grew.of_below hB4.drew u0)).trans hg5, Nat.lt_of_lt_of_le hbA (Nat.le_trans hB4.size hg5.1.size)⟩
          rw [HF.out, List.length_append, bcells_append, ← Nat.add_assoc, ← List.append_assoc]
          exact hown5
        case measure => simp [intOf]; omega
      · obtain rfl : kx = 3 := hkx
        have hc0 : wr.cell? ⟨b, off + j * 4, none⟩ = some (.int .i64 3) := c0'
        have hc1 : wr.cell? ⟨b, off + j * 4 + 1, none⟩ = some nx := c1'
        have hc2 : wr.cell? ⟨b, off + j * 4 + 2, none⟩ = some sx := c2'
        have hc3 : wr.cell? ⟨b, off + j * 4 + 3, none⟩ = some lx := c3'
        have HOk : Hid ((#[.int .i64 3, nx, sx, lx] : Array Value).all (·.oneCell') = true) := HO
        clear c0' c1' c2' c3' HO
        have hWr : Writer wr gb gt := hW.below hBw' hgb hgt
        have hgb' : gb < wr.heap.size := by omega
        have hgt' : gt < wr.heap.size := by omega
        have hW4 : Writer (wr.alloc (.cells #[.int .i64 3, nx, sx, lx] 194)) gb gt := hWr.below ((Below.refl wr.heap.size wr).alloc (Nat.le_refl _) _) hgb' hgt'
        have hX4 : Blk (wr.alloc (.cells #[.int .i64 3, nx, sx, lx] 194)) wr.heap.size 194 #[.int .i64 3, nx, sx, lx] := Blk.new _ _ _
        have hO4 := hown3.alloc (.cells #[.int .i64 3, nx, sx, lx] 194)
        have hB4 : Below wr.heap.size wr (wr.alloc (.cells #[.int .i64 3, nx, sx, lx] 194)) := (Below.refl _ wr).alloc (Nat.le_refl _) _
        clear hWr
        go_wp2_with (refine wpList_store_new rfl 194 _ _ rfl wr _ #[.int .i64 3, nx, sx, lx] 194 rfl rfl valueSize rfl HOk.out ?_)
        generalize wr.alloc (.cells #[.int .i64 3, nx, sx, lx] 194) = w4 at hW4 hX4 hO4 hB4 ⊢
        have d0 : w4.cell? ⟨wr.heap.size, 0, none⟩ = some (.int .i64 3) := hX4.cell 0
        have d1 : w4.cell? ⟨wr.heap.size, 1, none⟩ = some nx := hX4.cell 1
        have d2 : w4.cell? ⟨wr.heap.size, 2, none⟩ = some sx := hX4.cell 2
        have d3 : w4.cell? ⟨wr.heap.size, 3, none⟩ = some lx := hX4.cell 3
        have g0 := hW4.box
        have g1 := hW4.three
        clear hc0 hc1 hc2 hc3 HOk
        refine wp_region_still_tail 9 (by kernel_rfl) (by kernel_rfl) ?_
        simp only [List.take_succ_cons, List.take_zero, List.drop_succ_cons, List.drop_zero]
        show wpStill _ _ (World.drew _) _ _ _
        repeat still_step
        refine wpStill_nil ?_
        show wpList _ _ _ _ _ (World.drew _)
        clear d0 d1 d2 d3 g0 g1
        go_wp2_with fail
        have hcall := HWR.out w4.drew (Nat.le_trans (Nat.le_trans hbase (Nat.le_of_lt hbA)) hB4.size) ((hBw.trans (hB4.mono hBw.size)).drew) ⟨hW4.box, hW4.one, hW4.two, hW4.three⟩ (own_drew hO4)
        have hcall' : Calls Tryz.prog 156 #[u0, .agg #[.int .i64 3, nx, sx, lx], .pointer (some ⟨gb, 0, none⟩)] w4.drew _ := hcall
        refine hcall'.mono ?_
        rintro e5 w5 ⟨v5, rfl, hown5, hg5⟩
        clear hcall hcall'
        go_wp2_with fail
        go_roundw
        case rel =>
          refine ⟨j + 1, by omega, by go_num, ?_, (hG.trans (Grew.of_below hB4.drew u0)).trans hg5, Nat.lt_of_lt_of_le hbA (Nat.le_trans hB4.size hg5.1.size)⟩
          rw [HF.out, List.length_append, bcells_append, ← Nat.add_assoc, ← List.append_assoc]
          exact hown5
        case measure => simp [intOf]; omega
    · obtain rfl : j = m := by omega
      go_wp2_with fail
      go_ret
      refine ⟨_, rfl, ?_, hG⟩
      have e2 : bcells (listB es) = [B8 3] ++ bcells (numB j) ++ bcells es.flatten := by
        rw [listB, bcells_cons, bcells_append, ← HES.out]
        rfl
      have e3 : es.take j = es := List.take_of_length_le (by rw [← HES.out]; exact Nat.le_refl _)
      rw [e3] at hown3
      rw [HLL.out, e2, ← Nat.add_assoc, ← Nat.add_assoc]
      simpa using hown3
end Go.Proofs.YtkkcbkfpaoldmaaGreatDoor

/- Walks: codec.Check, codec.Encode. -/
namespace Go.Proofs.YtkkcbkfpaoldmaaGreatDoor
open Go.RowKit

theorem Elems.more {w : World} {B B' : Nat} {A : Option Addr} {l : List V4} (h : Elems w B A l) (hB : B ≤ B') : Elems w B' A l := fun hn => by
  obtain ⟨b, off, e, hb, hc⟩ := h hn
  exact ⟨b, off, e, Nat.lt_of_lt_of_le hb hB, hc⟩
theorem Elems.later {w w' : World} {A : Option Addr} {l : List V4} (h : Elems w w.heap.size A l) (hb : Below w.heap.size w w') : Elems w' w'.heap.size A l := (h.below hb).more hb.size
theorem IsFormed.later {w w' : World} {x : V4} {d : Nat} (h : IsFormed w x d) (hb : Below w.heap.size w w') : IsFormed w' x d := fun w'' hb' => h w'' (hb.trans (hb'.mono hb.size))
/-- The value x is encoded as the bytes e, in whatever world in which what lies below is as in w. -/
structure Enc (w : World) (x : V4) (d : Nat) (e : List UInt8) : Prop where
  kind : kindOk x
  one : x.n.oneCell' = true ∧ x.s.oneCell' = true ∧ x.l.oneCell' = true
  formed : IsFormed w x d
  written : IsWritten w x e
theorem IsWritten.later {w w' : World} {x : V4} {e : List UInt8} (h : IsWritten w x e) (hb : Below w.heap.size w w') : IsWritten w' x e := fun w2 base gb gt v n xs h1 h2 h3 h4 h5 h6 h7 h8 =>
  h w2 base gb gt v n xs (hb.trans (h1.mono hb.size)) (Nat.le_trans hb.size h2) h3 h4 h5 h6 h7 h8
theorem Enc.later {w w' : World} {x : V4} {d : Nat} {e : List UInt8} (h : Enc w x d e) (hb : Below w.heap.size w w') : Enc w' x d e := ⟨h.kind, h.one, h.formed.later hb, h.written.later hb⟩
theorem enc_int (w : World) (k : Nat) (hk : k ≤ 4611686018427387000) : Enc w (V4.int k) 0 (intB k) := ⟨.inl rfl, ⟨rfl, rfl, rfl⟩, fun w' _ => formed_int k w', written_int w k hk⟩
theorem enc_text (w : World) (s : ByteArray) : Enc w (V4.text s) 0 (textB s.data.toList) := ⟨.inr (.inl rfl), ⟨rfl, rfl, rfl⟩, fun w' _ => formed_text s w', written_text w s⟩
theorem enc_list (w : World) (A : Option Addr) (l : List V4) (es : List (List UInt8)) (c d : Nat) (hes : l.length = es.length) (hE : Elems w w.heap.size A l) (hl : l.length ≤ c) (hc : c ≤ 9223372036854775807) (hm47 : l.length ≤ 140737488355328) (hd : d ≤ 1000000)
    (h : ∀ (i : Nat) x e, l[i]? = some x → es[i]? = some e → Enc w x d e) : Enc w (V4.list A l.length c) (d + 1) (listB es) := by
  have hx : ∀ x ∈ l, ∃ e, Enc w x d e := by
    intro x hx
    obtain ⟨i, hi, rfl⟩ := List.mem_iff_getElem.1 hx
    exact ⟨_, h i _ _ (List.getElem?_eq_getElem hi) (List.getElem?_eq_getElem (by omega))⟩
  have h1 : ∀ x ∈ l, x.n.oneCell' = true ∧ x.s.oneCell' = true ∧ x.l.oneCell' = true := fun x hm => by obtain ⟨e, he⟩ := hx x hm; exact he.one
  refine ⟨.inr (.inr rfl), ⟨rfl, rfl, rfl⟩, fun w' hb => ?_, ?_⟩
  · exact formed_list A l c d w' (hE.later hb) hl hc hd h1 fun x hm => by obtain ⟨e, he⟩ := hx x hm; exact he.formed.later hb
  · intro w' base gb gt v n xs h2 h3 h4 h5 h6 h7 h8 h9
    exact nw3_any A l es c w w' base gb gt v n xs hes hE hl hm47 h1 (fun x hm => by obtain ⟨e, he⟩ := hx x hm; exact he.kind) (fun i x e hi he => (h i x e hi he).written) h2 h3 h4 h5 h6 h7 h8 h9

set_option maxRecDepth 100000 in
set_option maxHeartbeats 1000000 in
theorem check_ok (x : V4) (d : Nat) (w : World) (hf : IsFormed w x d) (h1 : x.n.oneCell' = true ∧ x.s.oneCell' = true ∧ x.l.oneCell' = true) (hd : d ≤ 16) : Calls Tryz.prog 146 #[x.agg] w (Ret (.int .i64 0) w) := by
  obtain ⟨k, n, s, l⟩ := x
  have HF := Lib.hid hf
  clear hf
  have HB : Hid (Blk (w.alloc (.cells #[.int .i64 k, n, s, l] 194)) w.heap.size 194 #[.int .i64 k, n, s, l]) := Blk.new _ _ _
  show Calls Tryz.prog 146 #[.agg #[.int .i64 k, n, s, l]] w (Ret (.int .i64 0) w)
  go_enter Tryz.func146, Tryz.ntmps146
  go_wp2_with fail
-- TAIL
  refine (HF.out _ ((Below.refl _ w).alloc (Nat.le_refl _) _)).mono ?_
  rintro e w2 ⟨⟨d', hd', rfl⟩, hb⟩
  have hB := ((Below.refl _ w).alloc (Nat.le_refl _) (.cells #[.int .i64 k, n, s, l] 194)).trans (hb.mono (by simp))
  have hd16 : d' ≤ 16 := by omega
  clear hb hd'
  go_wp2_with fail
  go_ret
  exact ⟨rfl, hB⟩

theorem own_weaken {w : World} {base base' : Nat} {e : TypeId} {size : Nat} {v : Value} {n : Nat} {xs : List Value} (h : w.ownsRow base e size v n xs) (hb : base' ≤ base) : w.ownsRow base' e size v n xs := by
  refine ⟨h.1, ?_⟩
  rcases h.2 with h2 | ⟨g, cap, cur, e1, h2, h3⟩
  · exact .inl h2
  · exact .inr ⟨g, cap, cur, e1, Nat.le_trans hb h2, h3⟩
def EncPost (e : List UInt8) (w : World) (en : Ending) (w' : World) : Prop := ∃ v, en = .returned (.tuple #[v, .int .i64 0]) ∧ w'.ownsRow w.heap.size 5 1 v e.length (bcells e) ∧ Below w.heap.size w w'
set_option maxRecDepth 100000 in
set_option maxHeartbeats 2000000 in
theorem encode_ok (x : V4) (d : Nat) (e : List UInt8) (w : World) (hx : Enc w x d e) (hd : d ≤ 16) (he : e.length + 16 ≤ 140737488355328) : Calls Tryz.prog 140 #[x.agg] w (EncPost e w) := by
  obtain ⟨hkind, h1, hf, hw⟩ := hx
  obtain ⟨k, n, s, l⟩ := x
  rcases hkind with hkind | hkind | hkind
  · obtain rfl : k = 1 := hkind
    have HFc : ∀ w', Below w.heap.size w w' → Calls Tryz.prog 146 #[.agg #[.int .i64 1, n, s, l]] w' (Ret (.int .i64 0) w') := fun w' hb => check_ok ⟨1, n, s, l⟩ d w' (hf.later hb) h1 hd
    show Calls Tryz.prog 140 #[.agg #[.int .i64 1, n, s, l]] w (EncPost e w)
    have HFC := Lib.hid HFc
    have HFW := Lib.hid hw
    clear HFc hf hw
    go_enter Tryz.func140, Tryz.ntmps140
    go_wp2_with fail
    have hB0 : Below w.heap.size w (w.alloc (.cells #[.int .i64 1, n, s, l] 194)) := (Below.refl _ w).alloc (Nat.le_refl _) _
    have hX0 : Blk (w.alloc (.cells #[.int .i64 1, n, s, l] 194)) w.heap.size 194 #[.int .i64 1, n, s, l] := Blk.new _ _ _
    generalize w.alloc (.cells #[.int .i64 1, n, s, l] 194) = w1 at hB0 hX0 ⊢
    refine (HFC.out w1 hB0).mono ?_
    rintro e1 w2 ⟨rfl, hb2⟩
    have hB2 := hB0.trans (hb2.mono hB0.size)
    have hX2 := hX0.below hb2 hX0.lt
    have hlt := hX2.lt
    clear hB0 hX0 hb2
    go_wp2_with fail
    have d0 : w2.cell? ⟨w.heap.size, 0, none⟩ = some (.int .i64 1) := hX2.cell 0
    have d1 : w2.cell? ⟨w.heap.size, 1, none⟩ = some n := hX2.cell 1
    have d2 : w2.cell? ⟨w.heap.size, 2, none⟩ = some s := hX2.cell 2
    have d3 : w2.cell? ⟨w.heap.size, 3, none⟩ = some l := hX2.cell 3
    clear hX2
    go_region_with (first
        | (go_at_call 147; refine (newWriter_any _).mono ?_; rintro e3 w3 ⟨gb, gt, rfl, hW, hgb, hgt, hb3⟩; have g1 := hW.one; have d4 : w3.cell? ⟨w.heap.size, 0, none⟩ = some (.int .i64 1) := (hb3.cell (p := ⟨w.heap.size, 0, none⟩) hlt).trans d0; have d5 : w3.cell? ⟨w.heap.size, 1, none⟩ = some n := (hb3.cell (p := ⟨w.heap.size, 1, none⟩) hlt).trans d1; have d6 : w3.cell? ⟨w.heap.size, 2, none⟩ = some s := (hb3.cell (p := ⟨w.heap.size, 2, none⟩) hlt).trans d2; have d7 : w3.cell? ⟨w.heap.size, 3, none⟩ = some l := (hb3.cell (p := ⟨w.heap.size, 3, none⟩) hlt).trans d3; have hB3 : Below w.heap.size w w3 := hB2.drew.trans (hb3.mono hB2.size))
        | (go_at_call 152; have hcall : Calls Tryz.prog 152 #[.slice none 0 0, .agg #[.int .i64 1, n, s, l]] w3 (Onto w3.heap.size (.slice none 0 0) 0 [] e w3) := HFW.out w3 w3.heap.size gb gt _ 0 [] hB3 hB3.size (Nat.le_refl _) hW hgb hgt (World.ownsRow_nil _ _ _ _) (by omega); refine hcall.mono ?_; rintro e5 w5 ⟨v5, rfl, hown5, hg5⟩; have hb5 := hg5.below (Nat.le_refl _) (fun k hk => by cases hk)))
    all_goals
      go_wp2
      go_ret2
      refine ⟨v5, rfl, ?_, hB3.trans (hb5.mono hB3.size)⟩
      have h := own_weaken hown5 hB3.size
      simpa using h
  · obtain rfl : k = 2 := hkind
    have HFc : ∀ w', Below w.heap.size w w' → Calls Tryz.prog 146 #[.agg #[.int .i64 2, n, s, l]] w' (Ret (.int .i64 0) w') := fun w' hb => check_ok ⟨2, n, s, l⟩ d w' (hf.later hb) h1 hd
    show Calls Tryz.prog 140 #[.agg #[.int .i64 2, n, s, l]] w (EncPost e w)
    have HFC := Lib.hid HFc
    have HFW := Lib.hid hw
    clear HFc hf hw
    go_enter Tryz.func140, Tryz.ntmps140
    go_wp2_with fail
    have hB0 : Below w.heap.size w (w.alloc (.cells #[.int .i64 2, n, s, l] 194)) := (Below.refl _ w).alloc (Nat.le_refl _) _
    have hX0 : Blk (w.alloc (.cells #[.int .i64 2, n, s, l] 194)) w.heap.size 194 #[.int .i64 2, n, s, l] := Blk.new _ _ _
    generalize w.alloc (.cells #[.int .i64 2, n, s, l] 194) = w1 at hB0 hX0 ⊢
    refine (HFC.out w1 hB0).mono ?_
    rintro e1 w2 ⟨rfl, hb2⟩
    have hB2 := hB0.trans (hb2.mono hB0.size)
    have hX2 := hX0.below hb2 hX0.lt
    have hlt := hX2.lt
    clear hB0 hX0 hb2
    go_wp2_with fail
    have d0 : w2.cell? ⟨w.heap.size, 0, none⟩ = some (.int .i64 2) := hX2.cell 0
    have d1 : w2.cell? ⟨w.heap.size, 1, none⟩ = some n := hX2.cell 1
    have d2 : w2.cell? ⟨w.heap.size, 2, none⟩ = some s := hX2.cell 2
    have d3 : w2.cell? ⟨w.heap.size, 3, none⟩ = some l := hX2.cell 3
    clear hX2
    go_region_with (first
        | (go_at_call 147; refine (newWriter_any _).mono ?_; rintro e3 w3 ⟨gb, gt, rfl, hW, hgb, hgt, hb3⟩; have g1 := hW.two; have d4 : w3.cell? ⟨w.heap.size, 0, none⟩ = some (.int .i64 2) := (hb3.cell (p := ⟨w.heap.size, 0, none⟩) hlt).trans d0; have d5 : w3.cell? ⟨w.heap.size, 1, none⟩ = some n := (hb3.cell (p := ⟨w.heap.size, 1, none⟩) hlt).trans d1; have d6 : w3.cell? ⟨w.heap.size, 2, none⟩ = some s := (hb3.cell (p := ⟨w.heap.size, 2, none⟩) hlt).trans d2; have d7 : w3.cell? ⟨w.heap.size, 3, none⟩ = some l := (hb3.cell (p := ⟨w.heap.size, 3, none⟩) hlt).trans d3; have hB3 : Below w.heap.size w w3 := hB2.drew.trans (hb3.mono hB2.size))
        | (go_at_call 155; have hcall : Calls Tryz.prog 155 #[.slice none 0 0, .agg #[.int .i64 2, n, s, l]] w3 (Onto w3.heap.size (.slice none 0 0) 0 [] e w3) := HFW.out w3 w3.heap.size gb gt _ 0 [] hB3 hB3.size (Nat.le_refl _) hW hgb hgt (World.ownsRow_nil _ _ _ _) (by omega); refine hcall.mono ?_; rintro e5 w5 ⟨v5, rfl, hown5, hg5⟩; have hb5 := hg5.below (Nat.le_refl _) (fun k hk => by cases hk)))
    all_goals
      go_wp2
      go_ret2
      refine ⟨v5, rfl, ?_, hB3.trans (hb5.mono hB3.size)⟩
      have h := own_weaken hown5 hB3.size
      simpa using h
  · obtain rfl : k = 3 := hkind
    have HFc : ∀ w', Below w.heap.size w w' → Calls Tryz.prog 146 #[.agg #[.int .i64 3, n, s, l]] w' (Ret (.int .i64 0) w') := fun w' hb => check_ok ⟨3, n, s, l⟩ d w' (hf.later hb) h1 hd
    show Calls Tryz.prog 140 #[.agg #[.int .i64 3, n, s, l]] w (EncPost e w)
    have HFC := Lib.hid HFc
    have HFW := Lib.hid hw
    clear HFc hf hw
    go_enter Tryz.func140, Tryz.ntmps140
    go_wp2_with fail
    have hB0 : Below w.heap.size w (w.alloc (.cells #[.int .i64 3, n, s, l] 194)) := (Below.refl _ w).alloc (Nat.le_refl _) _
    have hX0 : Blk (w.alloc (.cells #[.int .i64 3, n, s, l] 194)) w.heap.size 194 #[.int .i64 3, n, s, l] := Blk.new _ _ _
    generalize w.alloc (.cells #[.int .i64 3, n, s, l] 194) = w1 at hB0 hX0 ⊢
    refine (HFC.out w1 hB0).mono ?_
    rintro e1 w2 ⟨rfl, hb2⟩
    have hB2 := hB0.trans (hb2.mono hB0.size)
    have hX2 := hX0.below hb2 hX0.lt
    have hlt := hX2.lt
    clear hB0 hX0 hb2
    go_wp2_with fail
    have d0 : w2.cell? ⟨w.heap.size, 0, none⟩ = some (.int .i64 3) := hX2.cell 0
    have d1 : w2.cell? ⟨w.heap.size, 1, none⟩ = some n := hX2.cell 1
    have d2 : w2.cell? ⟨w.heap.size, 2, none⟩ = some s := hX2.cell 2
    have d3 : w2.cell? ⟨w.heap.size, 3, none⟩ = some l := hX2.cell 3
    clear hX2
    go_region_with (first
        | (go_at_call 147; refine (newWriter_any _).mono ?_; rintro e3 w3 ⟨gb, gt, rfl, hW, hgb, hgt, hb3⟩; have g1 := hW.three; have d4 : w3.cell? ⟨w.heap.size, 0, none⟩ = some (.int .i64 3) := (hb3.cell (p := ⟨w.heap.size, 0, none⟩) hlt).trans d0; have d5 : w3.cell? ⟨w.heap.size, 1, none⟩ = some n := (hb3.cell (p := ⟨w.heap.size, 1, none⟩) hlt).trans d1; have d6 : w3.cell? ⟨w.heap.size, 2, none⟩ = some s := (hb3.cell (p := ⟨w.heap.size, 2, none⟩) hlt).trans d2; have d7 : w3.cell? ⟨w.heap.size, 3, none⟩ = some l := (hb3.cell (p := ⟨w.heap.size, 3, none⟩) hlt).trans d3; have hB3 : Below w.heap.size w w3 := hB2.drew.trans (hb3.mono hB2.size))
        | (go_at_call 156; have hcall : Calls Tryz.prog 156 #[.slice none 0 0, .agg #[.int .i64 3, n, s, l], .pointer (some ⟨gb, 0, none⟩)] w3 (Onto w3.heap.size (.slice none 0 0) 0 [] e w3) := HFW.out w3 w3.heap.size gb gt _ 0 [] hB3 hB3.size (Nat.le_refl _) hW hgb hgt (World.ownsRow_nil _ _ _ _) (by omega); refine hcall.mono ?_; rintro e5 w5 ⟨v5, rfl, hown5, hg5⟩; have hb5 := hg5.below (Nat.le_refl _) (fun k hk => by cases hk)))
    all_goals
      go_wp2
      go_ret2
      refine ⟨v5, rfl, ?_, hB3.trans (hb5.mono hB3.size)⟩
      have h := own_weaken hown5 hB3.size
      simpa using h
end Go.Proofs.YtkkcbkfpaoldmaaGreatDoor

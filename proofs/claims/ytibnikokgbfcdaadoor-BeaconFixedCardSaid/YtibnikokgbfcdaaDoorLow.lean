/- Several texts in one: Bytes, W5, Ops, W6, W7, W8. -/
import Derived.Test.YtibnikokgbfcdaaDoorBase
import Derived.Test.YtibnikokgbfcdaaDoorW4
import Derived.Lib.ConvBytes
import Derived.Laws.EntriesVeiled
import Derived.Deep.RegionHeld3
/- Plain words on bytes and digests: lists of bytes in memory, SHA-256 as a function of a list of bytes. -/
namespace Go.Proofs.YtibnikokgbfcdaaDoor
open Go Go.RowKit

/-- Byte k of a list. -/
def byteAt (l : List UInt8) (k : Nat) : Int := ((l.getD k 0).toNat : Int)
/-- A byte, as a value. -/
def B8 (c : UInt8) : Value := .int .u8 (c.toNat : Int)
/-- The cells of a list of bytes. -/
def bcells (l : List UInt8) : List Value := l.map B8
theorem bcells_len (l : List UInt8) : (bcells l).length = l.length := by simp [bcells]
theorem bcells_append (a b : List UInt8) : bcells (a ++ b) = bcells a ++ bcells b := by simp [bcells]
theorem bcells_cons (c : UInt8) (l : List UInt8) : bcells (c :: l) = B8 c :: bcells l := rfl
theorem bcells_nil : bcells [] = [] := rfl
theorem bcells_get (l : List UInt8) (k : Nat) (h : k < l.length) : (bcells l)[k]? = some (.int .u8 (byteAt l k)) := by
  simp [bcells, byteAt, B8, h]
theorem range_bytes (l : List UInt8) : (List.range l.length).map (fun k => Value.int .u8 (byteAt l k)) = bcells l := by
  apply List.ext_getElem?
  intro k
  by_cases h : k < l.length
  · rw [bcells_get l k h]
    simp [h]
  · rw [List.getElem?_eq_none (by simpa using h), List.getElem?_eq_none (by simpa [bcells] using h)]
theorem bcells_one (l : List UInt8) : ∀ u ∈ bcells l, u.oneCell' = true := by
  intro u hu
  obtain ⟨_, _, rfl⟩ := List.mem_map.1 hu
  rfl
/-- The slice's address A reads as the list of bytes. -/
def RdB (w : World) (B : Nat) (A : Option Addr) (l : List UInt8) : Prop := Rd w B A l.length fun k => .int .u8 (byteAt l k)
theorem RdB.nil {w : World} {B : Nat} {A : Option Addr} : RdB w B A [] := Rd.zero
theorem RdB.of_own {w : World} {base : Nat} {e : TypeId} {A : Option Addr} {n c : Nat} {l : List UInt8} (h : w.ownsRow base e 1 (.slice A n c) n (bcells l)) : n = l.length ∧ RdB w w.heap.size A l := by
  have hn : n = l.length := by have := h.1; rw [bcells_len] at this; omega
  refine ⟨hn, ?_⟩
  subst hn
  have := rd_of_own h
  rw [Nat.mul_one] at this
  refine this.congr fun k hk => ?_
  rw [List.getD_eq_getElem?_getD, bcells_get l k hk]
  rfl
theorem RdB.of_blk {w : World} {b : Nat} {t : TypeId} {cs : Array Value} (h : Blk w b t cs) {off : Nat} {l : List UInt8} (hf : ∀ k, k < l.length → cs[off + k]? = some (.int .u8 (byteAt l k))) : RdB w w.heap.size (some ⟨b, off, none⟩) l :=
  Rd.of_blk h h.lt hf

/-- The hash of a list of bytes: 32 bytes. -/
def sha (l : List UInt8) : List UInt8 := (List.range 32).map fun i => UInt8.ofNat (digByte (shaEnd (byteAt l) l.length) i).toNat
theorem sha_length (l : List UInt8) : (sha l).length = 32 := by simp [sha]
/-- The cells of a digest. -/
def dig (d : List UInt8) : Array Value := (bcells d).toArray
theorem dig_size (d : List UInt8) : (dig d).size = d.length := by simp [dig, bcells_len]
theorem dig_get (d : List UInt8) (k : Nat) (h : k < d.length) : (dig d)[k]? = some (.int .u8 (byteAt d k)) := by
  rw [dig, List.getElem?_toArray, bcells_get d k h]
theorem dig_one (d : List UInt8) : (dig d).all (·.oneCell') = true :=
  one_of _ fun i hi => ⟨_, dig_get d i (by rwa [dig_size] at hi), rfl⟩
theorem byteOf_range (x : Int) (i : Nat) : 0 ≤ byteOf x i ∧ byteOf x i < 256 := by unfold byteOf; omega
theorem u8_of (x : Int) (h0 : 0 ≤ x) (h1 : x < 256) : ((UInt8.ofNat x.toNat).toNat : Int) = x := by
  have h : x.toNat < 256 := by omega
  rw [UInt8.toNat_ofNat_of_lt' h]
  omega
theorem dig_sha (l : List UInt8) (cs : Array Value) (hs : cs.size = 32) (hc : ∀ i, i < 32 → cs[i]? = some (.int .u8 (digByte (shaEnd (byteAt l) l.length) i))) : cs = dig (sha l) := by
  apply Array.ext_getElem?
  intro i
  by_cases h : i < 32
  · rw [hc i h, dig_get _ i (by rw [sha_length]; exact h), byteAt, sha]
    have hb : 0 ≤ digByte (shaEnd (byteAt l) l.length) i ∧ digByte (shaEnd (byteAt l) l.length) i < 256 := byteOf_range _ _
    simp only [List.getD_eq_getElem?_getD, List.getElem?_map, List.getElem?_range h, Option.map_some, Option.getD_some]
    rw [u8_of _ hb.1 hb.2]
  · rw [Array.getElem?_eq_none (by omega), Array.getElem?_eq_none (by rw [dig_size, sha_length]; omega)]

/-- The result is this value, and what was there before the call is as it was. -/
def Ret (v : Value) (w : World) (e : Ending) (w' : World) : Prop := e = .returned v ∧ Below w.heap.size w w'

theorem sum_bytes (l : List UInt8) (A : Option Addr) (cap : Nat) (w : World) (hL : Laid w) (hA : RdB w w.heap.size A l) (hn : l.length ≤ cap) (hcap : cap ≤ 9223372036854775807) (hn48 : l.length ≤ 281474976710656) :
    Calls Tryd.prog 101 #[.slice A l.length cap] w (Ret (.agg (dig (sha l))) w) :=
  (sum_any A l.length cap (byteAt l) w hL hA hn hcap hn48).mono fun _ _ ⟨⟨cs, he, hs, hc⟩, hb⟩ => ⟨by rw [he, dig_sha l cs hs hc], hb⟩

section
variable {ops : Array Oper} {rest : List Oper} {o : Oper} {a : Act} {Q : Exit → Act → World → Prop} (w : World)
theorem src_bytes {B : Nat} {A : Option Addr} {l : List UInt8} {c : Nat} (hR : RdB w B A l) : Src Tryd.prog 1 39 (.slice A l.length c) l.length (bcells l) w := by
  have h := src_rd (P := Tryd.prog) w (size := 1) (tx := 39) Tryd.underlying39 (c := c) (by rw [Nat.mul_one]; exact hR) (by decide) (fun k _ => rfl)
  rw [Nat.mul_one, range_bytes] at h
  exact h
theorem src_string (s : ByteArray) : Src Tryd.prog 1 9 (.string s) s.size (bcells s.data.toList) w := Src.ofString w Tryd.underlying9 s
/-- 'b = append(b, ..)' of bytes onto bytes of the call's own. -/
theorem app_bytes (hgd : o.guard = none) (s x : Operand) (tx : TypeId) (ho : o.op = .call { callee := .builtin .append, args := #[s, x], argTypes := #[39, tx] })
    (base : Nat) (v : Value) (n : Nat) (xs : List Value) (hs : a.eval s = v) (hown : w.ownsRow base 5 1 v n xs)
    (xv : Value) (m : Nat) (news : List Value) (hx : a.eval x = xv) (hsrc : Src Tryd.prog 1 tx xv m news w) (h47 : n + m ≤ 140737488355328) (hbase : base ≤ w.heap.size)
    (h : ∀ v' w', w'.ownsRow base 5 1 v' (n + m) (xs ++ news) → Grew w w' v v' → wpList Tryd.prog ops Q rest (a.put o.dst v') w') : wpList Tryd.prog ops Q (o :: rest) a w :=
  wpList_append_src w hgd s x 39 tx ho base 5 bInfo (.int .u8 0) 1 1 Tryd.underlying39 bInfo_eq bInfo_zero bInfo_size bInfo_bytes rfl v n xs hs hown xv m news hx hsrc (by simp only [maxLen]; omega) (by omega) hbase h
end
end Go.Proofs.YtibnikokgbfcdaaDoor

/- Walks: slices.Grow, slices.Concat of two slices of bytes, digest.Tagged. -/
namespace Go.Proofs.YtibnikokgbfcdaaDoor
open Go.RowKit

def GrowPost (w : World) (e : Ending) (w' : World) : Prop := ∃ v, e = .returned v ∧ w'.ownsRow w.heap.size 5 1 v 0 [] ∧ Below w.heap.size w w'
set_option maxHeartbeats 1000000 in
theorem grow_nil (n : Nat) (w : World) (h0 : 0 < n) (hn : n ≤ 140737488355328) :
    Calls Tryd.prog 119 #[.slice none 0 0, .int .i64 n] w (GrowPost w) := by
  have happ := fun ty => run_append_zeros_nil (P := Tryd.prog) w 39 3 ty 5 bInfo (.int .u8 0) .i64 Tryd.underlying39 Tryd.underlying3 bInfo_eq bInfo_zero (by rw [bInfo_size]; decide) n h0 (by omega) (by rw [bInfo_bytes]; omega)
  have hc : grownCap w n 0 5 ≤ maxLen := grownCap_le_maxLen w n 0 _ (by simp only [maxLen]; omega)
  have hge := grownCap_ge w n 0 5
  obtain ⟨C, hC⟩ : ∃ C, C = grownCap w n 0 5 := ⟨_, rfl⟩
  obtain ⟨Z, hZ⟩ : ∃ Z, Z = Builtin.zeroCells (Value.int .u8 0).cells n ++ Builtin.zeroCells (Value.int .u8 0).cells (grownCap w n 0 5 - n) := ⟨_, rfl⟩
  have hZs : Z.size = C := by rw [hZ, hC, Array.size_append, size_zeroCells, size_zeroCells]; simp [Value.cells]; omega
  rw [← hZ, ← hC] at happ
  rw [← hC] at hc hge
  have HZS := Lib.hid hZs
  have HC := Lib.hid hc
  clear hZ hC hZs hc
  have hi0 : (0 : Int) < n := by omega
  go_enter Tryd.func119, Tryd.ntmps119
  have HA := Lib.hid happ
  clear happ
  go_wp2_with (at_builtin; refine wpList_append_run _ rfl _ _ 39 3 rfl _ _ rfl rfl _ _ HA.out ?_)
  go_ret
  refine ⟨_, rfl, ?_, (Below.refl _ w).drew.alloc (by simp) _⟩
  have h := World.ownsRow_made w.drew (e := 5) (size := 1) (base := w.heap.size) Z C (Nat.le_refl _) HC.out (by rw [HZS.out, Nat.mul_one])
  exact h

def OwnPost (l : List UInt8) (w : World) (e : Ending) (w' : World) : Prop := ∃ v, e = .returned v ∧ w'.ownsRow w.heap.size 5 1 v l.length (bcells l) ∧ Below w.heap.size w w'
set_option maxHeartbeats 1000000 in
theorem concat_two (g off c : Nat) (A1 A2 : Option Addr) (c1 c2 n1 n2 : Nat) (l1 l2 : List UInt8) (w : World) (e1 : n1 = l1.length) (e2 : n2 = l2.length) (h1 : w.cell? ⟨g, off, none⟩ = some (.slice A1 n1 c1)) (h2 : w.cell? ⟨g, off + 1, none⟩ = some (.slice A2 n2 c2))
    (r1 : RdB w w.heap.size A1 l1) (r2 : RdB w w.heap.size A2 l2) (hpos : 0 < n1 + n2) (hmax : n1 + n2 ≤ 140737488355328) :
    Calls Tryd.prog 102 #[.slice (some ⟨g, off, none⟩) 2 c] w (OwnPost (l1 ++ l2) w) := by
  have E1 := Lib.hid e1
  have E2 := Lib.hid e2
  clear e1 e2
  have hgl : g < w.heap.size := World.block_lt_of_cell? w _ h1
  go_enter Tryd.func102, Tryd.ntmps102
  go_wp2_with fail
  go_loop [3, 11] (fun s i => (i = .int .i64 0 ∧ s = .int .i64 0) ∨ (i = .int .i64 1 ∧ s = .int .i64 n1) ∨ (i = .int .i64 2 ∧ s = .int .i64 ((n1 : Int) + n2))) (fun _ i => 2 - (intOf i).toNat)
  case atStart => exact .inl ⟨rfl, rfl⟩
  case round =>
    rcases hrel with ⟨rfl, rfl⟩ | ⟨rfl, rfl⟩ | ⟨rfl, rfl⟩
    · go_wp2_with fail
      go_round
      case rel => exact .inr (.inl ⟨rfl, rfl⟩)
      case measure => simp [intOf]
    · go_wp2_with fail
      go_round
      case rel => exact .inr (.inr ⟨rfl, rfl⟩)
      case measure => simp [intOf]
    · go_wp2_with fail
      refine (grow_nil (n1 + n2) w hpos hmax).mono ?_
      rintro e w1 ⟨v, rfl, hown, hb⟩
      have h1' := (hb.cell (p := ⟨g, off, none⟩) hgl).trans h1
      have h2' := (hb.cell (p := ⟨g, off + 1, none⟩) hgl).trans h2
      have r1' := r1.below hb
      have r2' := r2.below hb
      clear h1 h2 r1 r2
      go_wp2_with fail
      go_loopw [6, 27] (fun v i wr => ((i = .int .i64 0 ∧ wr.ownsRow w.heap.size 5 1 v 0 []) ∨ (i = .int .i64 1 ∧ wr.ownsRow w.heap.size 5 1 v n1 (bcells l1)) ∨ (i = .int .i64 2 ∧ wr.ownsRow w.heap.size 5 1 v (n1 + n2) (bcells l1 ++ bcells l2))) ∧ Below w.heap.size w1 wr) (fun _ i _ => 2 - (intOf i).toNat)
      case atStart => exact ⟨.inl ⟨rfl, hown⟩, Below.refl _ _⟩
      case round =>
        clear hown
        obtain ⟨hcase, hb1⟩ := hrel
        have h1 := (hb1.cell (p := ⟨g, off, none⟩) hgl).trans h1'
        have h2 := (hb1.cell (p := ⟨g, off + 1, none⟩) hgl).trans h2'
        have s1 : Src Tryd.prog 1 39 (.slice A1 n1 c1) n1 (bcells l1) wr := by rw [E1.out]; exact src_bytes wr (r1'.below hb1)
        have s2 : Src Tryd.prog 1 39 (.slice A2 n2 c2) n2 (bcells l2) wr := by rw [E2.out]; exact src_bytes wr (r2'.below hb1)
        have hB : w.heap.size ≤ wr.heap.size := Nat.le_trans hb.size hb1.size
        clear h1' h2' r1' r2'
        rcases hcase with ⟨rfl, hown⟩ | ⟨rfl, hown⟩ | ⟨rfl, hown⟩
        · go_wp2_with (at_builtin; refine app_bytes wr rfl _ _ 39 rfl w.heap.size _ 0 [] rfl hown _ n1 _ rfl s1 (by omega) hB ?_; intro v' w2 hown' hgr)
          rw [Nat.zero_add, List.nil_append] at hown'
          go_roundw
          case rel => exact ⟨.inr (.inl ⟨rfl, hown'⟩), hb1.trans (hgr.below hB fun k hk => (hown.lt k hk).1)⟩
          case measure => simp [intOf]
        · go_wp2_with (at_builtin; refine app_bytes wr rfl _ _ 39 rfl w.heap.size _ n1 _ rfl hown _ n2 _ rfl s2 (by omega) hB ?_; intro v' w2 hown' hgr)
          go_roundw
          case rel => exact ⟨.inr (.inr ⟨rfl, hown'⟩), hb1.trans (hgr.below hB fun k hk => (hown.lt k hk).1)⟩
          case measure => simp [intOf]
        · go_wp2_with fail
          go_ret
          refine ⟨_, rfl, ?_, hb.trans hb1⟩
          rw [List.length_append, bcells_append, ← E1.out, ← E2.out]
          exact hown
end Go.Proofs.YtibnikokgbfcdaaDoor

/- Laws at single operations, for walks: conversions between strings and bytes, digests stored and loaded whole, equality of digests. -/
namespace Go.Proofs.YtibnikokgbfcdaaDoor
open Go Go.RowKit

section
variable {ops : Array Oper} {rest : List Oper} {o : Oper} {a : Act} {Q : Exit → Act → World → Prop}
/-- A value stored whole into the block that was made last. -/
theorem wpList_store_new {P : Program} (hgd : o.guard = none) (ty : TypeId) (x y : Operand) (ho : o.op = .store ty x y) (w : World) (c cells : Array Value) (t : TypeId)
    (hx : a.eval x = .pointer (some ⟨w.heap.size, 0, none⟩)) (hy : a.eval y = .agg cells) (hi : (P.info? ty).map (·.size) = some cells.size) (hold : c.size = cells.size) (h1 : cells.all (·.oneCell') = true)
    (h : wpList P ops Q rest (a.put o.dst undef) (w.alloc (.cells cells t))) : wpList P ops Q (o :: rest) a (w.alloc (.cells c t)) :=
  wpList_store_row hgd ty x y ho w.heap.size cells hx hy t c (heap_alloc_last w _) hi hold h1 (by rw [World.setRow_alloc_new]; exact h)
theorem dig_info (d : List UInt8) (h : d.length = 32) : (Tryd.prog.info? 23).map (·.size) = some (dig d).size := by rw [dig_size, h]; exact Tryd.size23
/-- A digest stored into the block that was made last. -/
theorem store_dig_new (hgd : o.guard = none) (x y : Operand) (ho : o.op = .store 23 x y) (w : World) (c : Array Value) (t : TypeId) (d : List UInt8) (hd : d.length = 32)
    (hx : a.eval x = .pointer (some ⟨w.heap.size, 0, none⟩)) (hy : a.eval y = .agg (dig d)) (hold : c.size = 32)
    (h : wpList Tryd.prog ops Q rest (a.put o.dst undef) (w.alloc (.cells (dig d) t))) : wpList Tryd.prog ops Q (o :: rest) a (w.alloc (.cells c t)) :=
  wpList_store_new hgd _ x y ho w c (dig d) t hx hy (dig_info d hd) (by rw [hold, dig_size, hd]) (dig_one d) h
/-- A digest stored into a block that is known. -/
theorem store_dig (hgd : o.guard = none) (x y : Operand) (ho : o.op = .store 23 x y) {w : World} {g : Nat} {c : Array Value} {t : TypeId} (hg : Blk w g t c) (d : List UInt8) (hd : d.length = 32)
    (hx : a.eval x = .pointer (some ⟨g, 0, none⟩)) (hy : a.eval y = .agg (dig d)) (hold : c.size = 32)
    (h : ∀ w', Blk w' g t (dig d) → Only w w' g → w'.heap.size = w.heap.size → wpList Tryd.prog ops Q rest (a.put o.dst undef) w') : wpList Tryd.prog ops Q (o :: rest) a w :=
  wpList_store_row hgd _ x y ho g (dig d) hx hy t c hg (dig_info d hd) (by rw [hold, dig_size, hd]) (dig_one d)
    (h _ (setRow_heap w g c _ t _ hg) ⟨rfl, rfl, rfl, by simp, fun i _ hne => setRow_other w g i _ (fun e => hne (by rw [e]))⟩ (by simp))
/-- A digest loaded out of a block that is known. -/
theorem load_dig (hgd : o.guard = none) (x : Operand) (ho : o.op = .load 23 x) {w : World} {g : Nat} {t : TypeId} (d : List UInt8) (hd : d.length = 32) (hg : Blk w g t (dig d))
    (hx : a.eval x = .pointer (some ⟨g, 0, none⟩)) (h : wpList Tryd.prog ops Q rest (a.put o.dst (.agg (dig d))) w) : wpList Tryd.prog ops Q (o :: rest) a w :=
  wpList_load_row hgd _ x ho g hx t (dig d) (0, 0) _ hg Tryd.underlying23 rfl (dig_info d hd) h

/-- The same at one operation of a region that draws its order. -/
theorem step_app {K : Act → World → Prop} {E : Prop} (hgd : o.guard = none) (s x : Operand) (tx : TypeId) (ho : o.op = .call { callee := .builtin .append, args := #[s, x], argTypes := #[39, tx] })
    (base : Nat) (W : World) (v : Value) (n : Nat) (xs : List Value) (hown : W.ownsRow base 5 1 v n xs) (hs : a.eval s = v)
    (xv : Value) (m : Nat) (news : List Value) (hsrc : Src Tryd.prog 1 tx xv m news W) (hx : a.eval x = xv) (h47 : n + m ≤ 140737488355328) (hbase : base ≤ W.heap.size)
    (h : ∀ v' w', w'.ownsRow base 5 1 v' (n + m) (xs ++ news) → Grew W w' v v' → K (a.put o.dst v') w') :
    if Region.wanted o (yielded ops a.tmps) = true then Oper.wp Tryd.prog o a W K Q else E := by
  have hw : Region.wanted o (yielded ops a.tmps) = true := by simp [Region.wanted, hgd]
  rw [if_pos hw]
  obtain ⟨v', w', hrun, h2, h3⟩ := run_append_own_src (P := Tryd.prog) W base 39 tx o.type 5 bInfo (.int .u8 0) 1 1 Tryd.underlying39 bInfo_eq bInfo_zero bInfo_size bInfo_bytes rfl v n xs hown xv m news hsrc (by simp only [maxLen]; omega) (by omega) hbase
  unfold Oper.wp execOp
  simp only [ho, resolve, invoke, builtin, Sem.run_bind, Sem.run_pure, Result.andThen_ok, List.map_toArray, List.map_cons, List.map_nil, hs, hx, hrun]
  exact h v' w' h2 h3
theorem src_byte {W : World} {g : Nat} {t : TypeId} (c : UInt8) (z : Int) (hz : z = (c.toNat : Int)) (h : Blk W g t #[.int .u8 z]) : Src Tryd.prog 1 39 (.slice (some ⟨g, 0, none⟩) 1 1) 1 [B8 c] W := by
  subst hz
  have hR : RdB W W.heap.size (some ⟨g, 0, none⟩) [c] := RdB.of_blk h fun k hk => by
    obtain rfl : k = 0 := by simpa using hk
    rfl
  exact src_bytes _ hR
theorem Grew.ne {w w' : World} {v v' : Value} (h : Grew w w' v v') {g : Nat} (hg : g < w.heap.size) (hne : some g ≠ v.ownBlock) : some g ≠ v'.ownBlock := by
  rcases h.2 with h2 | ⟨k, h2, h3⟩
  · rwa [h2]
  · rw [h2]; intro e; injection e; omega
theorem own_drew {w : World} {base : Nat} {e : TypeId} {size : Nat} {v : Value} {n : Nat} {xs : List Value} (h : w.ownsRow base e size v n xs) : w.drew.ownsRow base e size v n xs := h
theorem Grew.alloc_first {w w' : World} {v v' : Value} {ob : Obj} (h : Grew (w.alloc ob) w' v v') : Grew w w' v v' :=
  (Grew.of_below ((Below.refl _ w).alloc (Nat.le_refl _) ob) v).trans h
/-- 'b = append(b, c)': one byte onto bytes of the call's own. -/
theorem app_byte (hgd : o.guard = none) (s x : Operand) (ho : o.op = .call { callee := .builtin .append, args := #[s, x], argTypes := #[39, 39] })
    (base : Nat) (w : World) (v : Value) (n : Nat) (xs : List Value) (hs : a.eval s = v) (hown : w.ownsRow base 5 1 v n xs) (c : UInt8) (z : Int) (hz : z = (c.toNat : Int)) (t : TypeId)
    (hx : a.eval x = .slice (some ⟨w.heap.size, 0, none⟩) 1 1) (h47 : n + 1 ≤ 140737488355328) (hbase : base ≤ w.heap.size)
    (h : ∀ v' w', w'.ownsRow base 5 1 v' (n + 1) (xs ++ [B8 c]) → Grew w w' v v' → wpList Tryd.prog ops Q rest (a.put o.dst v') w') : wpList Tryd.prog ops Q (o :: rest) a (w.alloc (.cells #[.int .u8 z] t)) := by
  subst hz
  have hR : RdB (w.alloc (.cells #[.int .u8 (c.toNat : Int)] t)) (w.alloc (.cells #[.int .u8 (c.toNat : Int)] t)).heap.size (some ⟨w.heap.size, 0, none⟩) [c] :=
    RdB.of_blk (Blk.new w t _) fun k hk => by
      obtain rfl : k = 0 := by simpa using hk
      rfl
  exact app_bytes _ hgd s x 39 ho base v n xs hs (hown.alloc _) _ 1 [B8 c] hx (src_bytes _ hR) (by omega) (by simp; omega) fun v' w' h1 h2 => h v' w' h1 h2.alloc_first
/-- '[]byte(s)'. -/
theorem conv_str (hgd : o.guard = none) (x : Operand) (ho : o.op = .convert 9 39 x) (w : World) (s : ByteArray) (hs : s.size ≤ 140737488355328) (hx : a.eval x = .string s)
    (h : ∀ c w1, s.size ≤ c → c ≤ 9223372036854775807 → RdB w1 w1.heap.size (some ⟨w.heap.size, 0, none⟩) s.data.toList → Below w.heap.size w w1 → w1.heap.size = w.heap.size + 1 →
      wpList Tryd.prog ops Q rest (a.put o.dst (.slice (some ⟨w.heap.size, 0, none⟩) s.size c)) w1) : wpList Tryd.prog ops Q (o :: rest) a w :=
  wpList_plain hgd fun _ hK => by
    have hrun := Lib.run_convert_string_bytes (P := Tryd.prog) w 9 39 5 s Tryd.underlying9 Tryd.underlying39 Tryd.underlying5
    have hc := grownCap_ge w s.size 0 5
    have hc2 := grownCap_le_maxLen w s.size 0 5 (by simp only [maxLen]; omega)
    unfold Oper.wp execOp
    simp only [ho, hx, Sem.run_bind, Result.andThen_ok, hrun]
    refine hK _ _ (h _ _ hc hc2 ?_ ?_ (Lib.bytesWorld_size _ _ _))
    · intro _
      exact ⟨w.heap.size, 0, rfl, by rw [Lib.bytesWorld_size]; omega, fun k hk => by
        rw [Nat.zero_add, Lib.bytesWorld_cell w 5 s k hk]
        rfl⟩
    · exact ⟨rfl, rfl, rfl, by rw [Lib.bytesWorld_size]; omega, fun k hk => Lib.bytesWorld_at_old w 5 s k hk⟩
end
end Go.Proofs.YtibnikokgbfcdaaDoor

/- Walk: digest.Tagged. -/
namespace Go.Proofs.YtibnikokgbfcdaaDoor
open Go.RowKit

/-- The hash of bytes under a tag. -/
def tagged (t l : List UInt8) : List UInt8 := sha (sha t ++ l)
theorem tagged_length (t l : List UInt8) : (tagged t l).length = 32 := sha_length _

set_option maxRecDepth 100000 in
set_option maxHeartbeats 1000000 in
theorem tagged_any (s : ByteArray) (A : Option Addr) (l : List UInt8) (cap : Nat) (w : World) (hL : Laid w) (hA : RdB w w.heap.size A l) (hl : l.length ≤ 140737488000000) (hs : s.size ≤ 140737488000000) :
    Calls Tryd.prog 58 #[.string s, .slice A l.length cap] w (Ret (.agg (dig (tagged s.data.toList l))) w) := by
  go_enter Tryd.func58, Tryd.ntmps58
  go_wp2_with (refine conv_str rfl _ rfl _ s (by omega) rfl ?_; intro c1 w1 hc1 hc2 hr1 hb1 hz1; have hB1 : Below w.heap.size w w1 := ((Below.refl _ w).alloc (Nat.le_refl _) _).trans (hb1.mono (by simp)); have hD1 := (Blk.new w 23 _).below hb1 (by simp); simp only [World.size_alloc] at hr1 hz1; clear hb1)
  refine (sum_bytes s.data.toList _ _ _ (hL.below hB1) hr1 hc1 hc2 (Nat.le_trans hs (by omega))).mono ?_
  rintro e w2 ⟨rfl, hb2⟩
  have hB2 := hB1.trans (hb2.mono hB1.size)
  have hD2 := hD1.below hb2 hD1.lt
  have hz2 : w.heap.size + 2 ≤ w2.heap.size := by have := hb2.size; omega
  clear hD1 hr1
  go_wp2_with (refine store_dig_new rfl _ _ rfl _ _ _ (sha s.data.toList) (sha_length _) rfl rfl rfl ?_)
  have hr2 := hA.below hB2
  have hA3 : RdB ((w2.alloc (.cells (dig (sha s.data.toList)) 23)).alloc (.cells #[.slice (some ⟨w2.heap.size, 0, none⟩) 32 32, .slice A l.length cap] 39)) ((w2.alloc (.cells (dig (sha s.data.toList)) 23)).alloc (.cells #[.slice (some ⟨w2.heap.size, 0, none⟩) 32 32, .slice A l.length cap] 39)).heap.size A l :=
    ((hr2.more (B' := w2.heap.size) hB2.size).alloc (Nat.le_refl _) _ |>.alloc (by simp) _).more (by simp; omega)
  have hT : Blk ((w2.alloc (.cells (dig (sha s.data.toList)) 23)).alloc (.cells #[.slice (some ⟨w2.heap.size, 0, none⟩) 32 32, .slice A l.length cap] 39)) w2.heap.size 23 (dig (sha s.data.toList)) := (Blk.new w2 _ _).alloc _
  have hS : Blk ((w2.alloc (.cells (dig (sha s.data.toList)) 23)).alloc (.cells #[.slice (some ⟨w2.heap.size, 0, none⟩) 32 32, .slice A l.length cap] 39)) (w2.heap.size + 1) 39 #[.slice (some ⟨w2.heap.size, 0, none⟩) 32 32, .slice A l.length cap] := heap_alloc2_new w2 _ _
  have hB3 : Below w.heap.size w ((w2.alloc (.cells (dig (sha s.data.toList)) 23)).alloc (.cells #[.slice (some ⟨w2.heap.size, 0, none⟩) 32 32, .slice A l.length cap] 39)) := (hB2.alloc hB2.size _).alloc (Nat.le_trans hB2.size (by simp)) _
  have hD3 := (hD2.alloc (.cells (dig (sha s.data.toList)) 23)).alloc (.cells #[.slice (some ⟨w2.heap.size, 0, none⟩) 32 32, .slice A l.length cap] 39)
  clear hr2 hD2
  generalize (w2.alloc (.cells (dig (sha s.data.toList)) 23)).alloc (.cells #[.slice (some ⟨w2.heap.size, 0, none⟩) 32 32, .slice A l.length cap] 39) = w3 at hA3 hT hS hB3 hD3 ⊢
  refine (concat_two (w2.heap.size + 1) 0 2 (some ⟨w2.heap.size, 0, none⟩) A 32 cap 32 l.length (sha s.data.toList) l w3 (sha_length _).symm rfl (hS.cell 0) (hS.cell 1)
    (RdB.of_blk hT fun k hk => by rw [Nat.zero_add]; exact dig_get _ k hk) hA3 (by omega) (by omega)).mono ?_
  intro e w4 hp
  obtain ⟨M, hM⟩ : ∃ M, M = sha s.data.toList ++ l := ⟨_, rfl⟩
  have hMl : M.length = 32 + l.length := by rw [hM, List.length_append, sha_length]
  rw [← hM] at hp
  have HM := Lib.hid hM
  clear hM
  obtain ⟨v, rfl, hown, hb4⟩ := hp
  have hB4 := hB3.trans (hb4.mono hB3.size)
  have hD4 := hD3.below hb4 hD3.lt
  clear hT hS hA3 hD3 hb4
  have hform : ∃ g cap', v = .slice (some ⟨g, 0, none⟩) M.length cap' ∧ M.length ≤ cap' ∧ cap' ≤ maxLen := by
    rcases hown.2 with ⟨rfl, h0⟩ | ⟨g, cap', cur, rfl, _, _, h1, h2, _⟩
    · omega
    · exact ⟨g, cap', rfl, h1, h2⟩
  obtain ⟨g, cap', rfl, hg1, hg2⟩ := hform
  have hr4 := (RdB.of_own hown).2
  have hlen : M.length ≤ 281474976710656 := by omega
  unfold maxLen at hg2
  clear hown hMl
  go_wp2_with fail
  refine (sum_bytes M _ _ _ (hL.below hB4) hr4 hg1 hg2 hlen).mono ?_
  rintro e w5 ⟨rfl, hb5⟩
  have hB5 := hB4.trans (hb5.mono hB4.size)
  have hD5 := hD4.below hb5 hD4.lt
  clear hD4 hr4 hb5
  go_wp2_with (refine store_dig rfl _ _ rfl hD5 (sha M) (sha_length _) rfl rfl rfl ?_; intro w6 hD6 hO6 hz6)
  refine bodyPost_ret (results_cell_row rfl _ _ w.heap.size 23 _ (0, 0) _ rfl hD6 Tryd.underlying23 rfl (dig_info _ (sha_length _))) rfl ?_
  rw [tagged, ← HM.out]
  exact ⟨rfl, hB5.trans (hO6.toBelow hB5.size (Nat.le_refl _))⟩
end Go.Proofs.YtibnikokgbfcdaaDoor

/- Walks: codec.numeral, codec.unsigned. -/
namespace Go.Proofs.YtibnikokgbfcdaaDoor
open Go.RowKit

/-- The bytes l have come onto the slice v of the call's own. -/
def Onto (base : Nat) (v : Value) (n : Nat) (xs : List Value) (l : List UInt8) (w : World) (e : Ending) (w' : World) : Prop :=
  ∃ v', e = .returned v' ∧ w'.ownsRow base 5 1 v' (n + l.length) (xs ++ bcells l) ∧ Grew w w' v v'

set_option maxRecDepth 100000 in
set_option maxHeartbeats 1000000 in
theorem numeral_any (base : Nat) (v : Value) (n : Nat) (xs : List Value) (u : Nat) (w : World) (hown : w.ownsRow base 5 1 v n xs) (hbase : base ≤ w.heap.size) (hu : u < 18446744073709551616) (hn : n + 10 ≤ 140737488355328) :
    Calls Tryd.prog 123 #[v, .int .u64 u] w (Onto base v n xs (numB u) w) := by
  have hlen := numB_len10 u hu
  go_enter Tryd.func123, Tryd.ntmps123
  go_wp2_with fail
  go_loopw [0, 1] (fun b x wr => ∃ (u' : Nat) (done : List UInt8), numB u = done ++ numB u' ∧ u' < 18446744073709551616 ∧ x = .int .u64 u' ∧ wr.ownsRow base 5 1 b (n + done.length) (xs ++ bcells done) ∧ Grew w wr v b) (fun _ x _ => (intOf x).toNat)
  case atStart => exact ⟨u, [], rfl, hu, rfl, by simpa [bcells] using hown, Grew.refl _ _⟩
  case round =>
    obtain ⟨u', done, hd, hu', rfl, hown', hg⟩ := hrel
    have HD := Lib.hid hd
    have hdl : done.length ≤ 9 := by
      have h1 := congrArg List.length hd
      rw [List.length_append] at h1
      have h2 : 0 < (numB u').length := by
        rcases Nat.lt_or_ge u' 128 with h | h
        · rw [numB_small u' h]; simp
        · rw [numB_step u' h]; simp
      omega
    have hB : base ≤ wr.heap.size := Nat.le_trans hbase hg.1.size
    have HU := Lib.hid hu'
    clear hd hown hlen hu hu'
    by_cases hlt : u' < 128
    · go_wp2_with (at_builtin; refine app_byte rfl _ _ rfl base wr u0 _ _ rfl hown' (UInt8.ofNat u') _ (by first | exact u8_mod u' hlt | exact u8_id u' hlt) _ rfl (by omega) hB ?_; intro v2 w2 hown2 hg2)
      go_ret
      refine ⟨_, rfl, ?_, hg.trans hg2⟩
      rw [HD.out, numB_small u' hlt, bcells_append, List.length_append, ← List.append_assoc]
      exact hown2
    · have hge : 128 ≤ u' := by omega
      go_wp2_with (at_builtin; refine app_byte rfl _ _ rfl base wr u0 _ _ rfl hown' (UInt8.ofNat (u' % 128 + 128)) _ (or128 u') _ rfl (by omega) hB ?_; intro v2 w2 hown2 hg2)
      go_roundw
      case rel =>
        have hu' := HU.out
        refine ⟨u' / 128, done ++ [UInt8.ofNat (u' % 128 + 128)], ?_, by omega, rfl, ?_, hg.trans hg2⟩
        · rw [HD.out, numB_step u' hge]; simp
        · rw [bcells_append, List.length_append, ← List.append_assoc]
          exact hown2
      case measure => simp [intOf]; omega

theorem xor_zero (a : Int) (h0 : 0 ≤ a) (h1 : a < 9223372036854775808) : bits .xor .u64 a 0 = a := by
  show IntKind.u64.wrap ((BitVec.ofInt 64 a ^^^ BitVec.ofInt 64 0).toNat : Int) = a
  have e : BitVec.ofInt 64 a ^^^ BitVec.ofInt 64 0 = BitVec.ofInt 64 a := by
    rw [show BitVec.ofInt 64 0 = 0#64 from rfl, BitVec.xor_zero]
  rw [e, BitVec.toNat_ofInt]
  rw [IntKind.wrap_u64]
  omega
set_option maxRecDepth 100000 in
set_option maxHeartbeats 1000000 in
theorem unsigned_any (n : Nat) (w : World) (hn : n ≤ 4611686018427387000) :
    Calls Tryd.prog 124 #[.int .i64 n] w fun e w' => e = .returned (.int .u64 ((2 * n : Nat) : Int)) ∧ w = w' := by
  have hx := Lib.hid (xor_zero ((n : Int) * 2) (by omega) (by omega))
  have hd : (n : Int) / 9223372036854775808 = 0 := by omega
  go_enter Tryd.func124, Tryd.ntmps124
  go_wp2
  go_ret
  refine ⟨?_, rfl⟩
  show Ending.returned (.int .u64 (bits .xor .u64 ((n : Int) * 2) 0)) = _
  rw [hx.out, show ((2 * n : Nat) : Int) = (n : Int) * 2 from by omega]
end Go.Proofs.YtibnikokgbfcdaaDoor

/- Walks: codec.newWriter and its closures. -/
namespace Go.Proofs.YtibnikokgbfcdaaDoor
open Go.RowKit

/-- The table of the writers lies in block gt, the variable that holds its address in block gb. -/
structure Writer (w : World) (gb gt : Nat) : Prop where
  box : w.cell? ⟨gb, 0, none⟩ = some (.pointer (some ⟨gt, 0, none⟩))
  one : w.cell? ⟨gt, 1, none⟩ = some (.func (.func 122) #[] #[])
  two : w.cell? ⟨gt, 2, none⟩ = some (.func (.func 125) #[] #[])
  three : w.cell? ⟨gt, 3, none⟩ = some (.func (.func 126) #[] #[.pointer (some ⟨gb, 0, none⟩)])
theorem Writer.below {w w' : World} {gb gt B : Nat} (h : Writer w gb gt) (hb : Below B w w') (h1 : gb < B) (h2 : gt < B) : Writer w' gb gt :=
  ⟨(hb.cell (p := ⟨gb, 0, none⟩) h1).trans h.box, (hb.cell (p := ⟨gt, 1, none⟩) h2).trans h.one, (hb.cell (p := ⟨gt, 2, none⟩) h2).trans h.two, (hb.cell (p := ⟨gt, 3, none⟩) h2).trans h.three⟩

def NewWriterPost (w : World) (e : Ending) (w' : World) : Prop := ∃ gb gt, e = .returned (.pointer (some ⟨gt, 0, none⟩)) ∧ Writer w' gb gt ∧ gb < w'.heap.size ∧ gt < w'.heap.size ∧ Below w.heap.size w w'
set_option maxRecDepth 100000 in
set_option maxHeartbeats 1000000 in
theorem newWriter_any (w : World) : Calls Tryd.prog 107 #[] w (NewWriterPost w) := by
  go_enter Tryd.func107, Tryd.ntmps107
  go_wp2
  go_ret
  refine ⟨w.heap.size + 1, w.heap.size, rfl, ⟨?_, ?_, ?_, ?_⟩, by simp, by simp only [World.size_alloc]; omega, ((Below.refl _ w).alloc (Nat.le_refl _) _).alloc (by simp) _⟩
  all_goals go_simp

/-- The four cells of a value that is an integer. -/
def NwPost (base : Nat) (v : Value) (n : Nat) (xs : List Value) (l : List UInt8) (w : World) (e : Ending) (w' : World) : Prop := Onto base v n xs l w e w'
set_option maxRecDepth 100000 in
set_option maxHeartbeats 1000000 in
theorem nw1_any (base : Nat) (v : Value) (n : Nat) (xs : List Value) (k : Nat) (v0 v2 v3 : Value) (w : World) (hown : w.ownsRow base 5 1 v n xs) (hbase : base ≤ w.heap.size) (hk : k ≤ 4611686018427387000) (hn : n + 11 ≤ 140737488355328) :
    Calls Tryd.prog 122 #[v, .agg #[v0, .int .i64 k, v2, v3]] w (Onto base v n xs (intB k) w) := by
  go_enter Tryd.func122, Tryd.ntmps122
  go_wp2_with fail
  have hc : (w.alloc (.cells #[v0, .int .i64 k, v2, v3] 93)).cell? ⟨w.heap.size, 1, none⟩ = some (.int .i64 k) := (Blk.new w _ _).cell 1
  have hown1 := hown.alloc (.cells #[v0, .int .i64 k, v2, v3] 93)
  have hg1 : Grew w (w.alloc (.cells #[v0, .int .i64 k, v2, v3] 93)) v v := Grew.of_below ((Below.refl _ w).alloc (Nat.le_refl _) _) v
  have hb1 : base ≤ (w.alloc (.cells #[v0, .int .i64 k, v2, v3] 93)).heap.size := by simp; omega
  have hlt : w.heap.size < (w.alloc (.cells #[v0, .int .i64 k, v2, v3] 93)).heap.size := by simp
  generalize w.alloc (.cells #[v0, .int .i64 k, v2, v3] 93) = w1 at hc hown1 hg1 hb1 hlt ⊢
  have hvk : some w.heap.size ≠ v.ownBlock := fun e => by have := (hown.lt _ e.symm).2; omega
  go_region_held3 (fun w' => w'.cell? ⟨w.heap.size, 1, none⟩ = some (.int .i64 k)) (first | exact hc3 | exact hc2 | go_keep)
    ((first
      | (refine step_app rfl _ _ 39 rfl base _ v n xs (own_drew (hown1.alloc _)) rfl _ 1 [B8 1] (src_byte 1 1 rfl (Blk.new _ _ _)) rfl (by omega) (by simp; omega) ?_; intro v2 w2 hown2 hg2; have hc2 := hg2.1.cell (a := ⟨w.heap.size, 1, none⟩) (v := .int .i64 k) ((World.cell?_alloc_lt _ _ _ hlt).trans hc) hvk; have hb2 := hg2.1.size; have hv2k := hg2.ne (g := w.heap.size) (by simp; omega) hvk)
      | (go_at_call 124; refine (unsigned_any k _ (by omega)).mono ?_; rintro e w' ⟨rfl, rfl⟩)
      | (go_at_call 123; refine (numeral_any base v2 (n + 1) (xs ++ [B8 1]) (2 * k) _ hown2 (by simp at hb2; omega) (by omega) (by omega)).mono ?_; rintro e w3 ⟨v3, rfl, hown3, hg3⟩; have hc3 := hg3.1.cell (a := ⟨w.heap.size, 1, none⟩) hc2 hv2k)))
  go_wp2
  go_ret
  refine ⟨v3, rfl, ?_, hg1.trans (((Grew.of_below (((Below.refl _ w1).alloc (Nat.le_refl _) _).drew) v).trans hg2).trans hg3)⟩
  rw [intB, List.length_cons, Nat.add_comm _ 1, ← Nat.add_assoc, bcells_cons]
  simpa using hown3

set_option maxRecDepth 100000 in
set_option maxHeartbeats 1000000 in
theorem nw2_any (base : Nat) (v : Value) (n : Nat) (xs : List Value) (s : ByteArray) (v0 v1 vl : Value) (w : World) (hown : w.ownsRow base 5 1 v n xs) (hbase : base ≤ w.heap.size) (hn : n + s.size + 11 ≤ 140737488355328) :
    Calls Tryd.prog 125 #[v, .agg #[v0, v1, .string s, vl]] w (Onto base v n xs (textB s.data.toList) w) := by
  go_enter Tryd.func125, Tryd.ntmps125
  go_wp2_with fail
  have hc : (w.alloc (.cells #[v0, v1, .string s, vl] 93)).cell? ⟨w.heap.size, 2, none⟩ = some (.string s) := (Blk.new w _ _).cell 2
  have hown1 := hown.alloc (.cells #[v0, v1, .string s, vl] 93)
  have hg1 : Grew w (w.alloc (.cells #[v0, v1, .string s, vl] 93)) v v := Grew.of_below ((Below.refl _ w).alloc (Nat.le_refl _) _) v
  have hb1 : base ≤ (w.alloc (.cells #[v0, v1, .string s, vl] 93)).heap.size := by simp; omega
  have hlt : w.heap.size < (w.alloc (.cells #[v0, v1, .string s, vl] 93)).heap.size := by simp
  generalize w.alloc (.cells #[v0, v1, .string s, vl] 93) = w1 at hc hown1 hg1 hb1 hlt ⊢
  have hvk : some w.heap.size ≠ v.ownBlock := fun e => by have := (hown.lt _ e.symm).2; omega
  have hwr : IntKind.u64.wrap (s.size : Int) = s.size := by rw [IntKind.wrap_u64]; omega
  go_region_held3 (fun w' => w'.cell? ⟨w.heap.size, 2, none⟩ = some (.string s)) (first | exact hc4 | exact hc3 | exact hc2 | go_keep)
    ((first
      | (refine step_app rfl _ _ 39 rfl base _ v n xs (own_drew (hown1.alloc _)) rfl _ 1 [B8 2] (src_byte 2 2 rfl (Blk.new _ _ _)) rfl (by omega) (by simp; omega) ?_; intro v2 w2 hown2 hg2; have hc2 := hg2.1.cell (a := ⟨w.heap.size, 2, none⟩) (v := .string s) ((World.cell?_alloc_lt _ _ _ hlt).trans hc) hvk; have hb2 := hg2.1.size; have hv2k := hg2.ne (g := w.heap.size) (by simp; omega) hvk)
      | (go_at_call 123; refine (numeral_any base v2 (n + 1) (xs ++ [B8 2]) s.size _ hown2 (by simp at hb2; omega) (by omega) (by omega)).mono ?_; rintro e w3 ⟨v3, rfl, hown3, hg3⟩; have hc3 := hg3.1.cell (a := ⟨w.heap.size, 2, none⟩) hc2 hv2k; have hb3 := hg3.1.size; have hv3k := hg3.ne (g := w.heap.size) (by simp at hb2; omega) hv2k)
      | (refine step_app rfl _ _ 9 rfl base _ v3 _ _ hown3 rfl _ s.size _ (src_string _ s) rfl (by have := numB_len10 s.size (by omega); omega) (by simp at hb2; omega) ?_; intro v4 w4 hown4 hg4; have hc4 := hg4.1.cell (a := ⟨w.heap.size, 2, none⟩) hc3 hv3k)))
  clear hwr
  go_wp2
  go_ret
  refine ⟨v4, rfl, ?_, (hg1.trans (((Grew.of_below (((Below.refl _ w1).alloc (Nat.le_refl _) _).drew) v).trans hg2).trans hg3)).trans hg4⟩
  have e1 : (textB s.data.toList).length = 1 + (numB s.size).length + s.size := by
    rw [textB, List.length_cons, List.length_append]
    show (numB s.size).length + s.size + 1 = _
    omega
  have e2 : bcells (textB s.data.toList) = [B8 2] ++ bcells (numB s.size) ++ bcells s.data.toList := by
    rw [textB, bcells_cons, bcells_append]
    rfl
  rw [e1, e2, ← Nat.add_assoc, ← Nat.add_assoc]
  simpa using hown4
end Go.Proofs.YtibnikokgbfcdaaDoor

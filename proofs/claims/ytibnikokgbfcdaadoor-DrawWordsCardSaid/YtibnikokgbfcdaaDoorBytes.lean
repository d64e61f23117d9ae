/- Plain words on bytes and digests: lists of bytes in memory, SHA-256 as a function of a list of bytes. -/
import Derived.Test.YtibnikokgbfcdaaDoorOwn
import Derived.Test.YtibnikokgbfcdaaDoorW4
namespace Go.Proofs.YtibnikokgbfcdaaDoor
open Go Go.RowKit

/-- Byte k of a list. -/
def byteAt (l : List UInt8) (k : Nat) : Int := ((l.getD k 0).toNat : Int)
/-- A byte, as a value. -/
def B8 (c : UInt8) : Value := .int .u8 (c.toNat : Int)
/-- The cells of a list of bytes. -/
def bcells (l : List UInt8) : List Value := l.map B8
theorem bcells_len (l : List UInt8) : (bcells l).length = l.length := by simp [bcells]
theorem bcells_append (a b : List UInt8) : bcells (a ++ b) = bcells a ++ bcells b := by simp [bcells]
theorem bcells_cons (c : UInt8) (l : List UInt8) : bcells (c :: l) = B8 c :: bcells l := rfl
theorem bcells_nil : bcells [] = [] := rfl
theorem bcells_get (l : List UInt8) (k : Nat) (h : k < l.length) : (bcells l)[k]? = some (.int .u8 (byteAt l k)) := by
  simp [bcells, byteAt, B8, h]
theorem range_bytes (l : List UInt8) : (List.range l.length).map (fun k => Value.int .u8 (byteAt l k)) = bcells l := by
  apply List.ext_getElem?
  intro k
  by_cases h : k < l.length
  · rw [bcells_get l k h]
    simp [h]
  · rw [List.getElem?_eq_none (by simpa using h), List.getElem?_eq_none (by simpa [bcells] using h)]
theorem bcells_one (l : List UInt8) : ∀ u ∈ bcells l, u.oneCell' = true := by
  intro u hu
  obtain ⟨_, _, rfl⟩ := List.mem_map.1 hu
  rfl
/-- The slice's address A reads as the list of bytes. -/
def RdB (w : World) (B : Nat) (A : Option Addr) (l : List UInt8) : Prop := Rd w B A l.length fun k => .int .u8 (byteAt l k)
theorem RdB.nil {w : World} {B : Nat} {A : Option Addr} : RdB w B A [] := Rd.zero
theorem RdB.of_own {w : World} {base : Nat} {e : TypeId} {A : Option Addr} {n c : Nat} {l : List UInt8} (h : w.ownsRow base e 1 (.slice A n c) n (bcells l)) : n = l.length ∧ RdB w w.heap.size A l := by
  have hn : n = l.length := by have := h.1; rw [bcells_len] at this; omega
  refine ⟨hn, ?_⟩
  subst hn
  have := rd_of_own h
  rw [Nat.mul_one] at this
  refine this.congr fun k hk => ?_
  rw [List.getD_eq_getElem?_getD, bcells_get l k hk]
  rfl
theorem RdB.of_blk {w : World} {b : Nat} {t : TypeId} {cs : Array Value} (h : Blk w b t cs) {off : Nat} {l : List UInt8} (hf : ∀ k, k < l.length → cs[off + k]? = some (.int .u8 (byteAt l k))) : RdB w w.heap.size (some ⟨b, off, none⟩) l :=
  Rd.of_blk h h.lt hf

/-- The hash of a list of bytes: 32 bytes. -/
def sha (l : List UInt8) : List UInt8 := (List.range 32).map fun i => UInt8.ofNat (digByte (shaEnd (byteAt l) l.length) i).toNat
theorem sha_length (l : List UInt8) : (sha l).length = 32 := by simp [sha]
/-- The cells of a digest. -/
def dig (d : List UInt8) : Array Value := (bcells d).toArray
theorem dig_size (d : List UInt8) : (dig d).size = d.length := by simp [dig, bcells_len]
theorem dig_get (d : List UInt8) (k : Nat) (h : k < d.length) : (dig d)[k]? = some (.int .u8 (byteAt d k)) := by
  rw [dig, List.getElem?_toArray, bcells_get d k h]
theorem dig_one (d : List UInt8) : (dig d).all (·.oneCell') = true :=
  one_of _ fun i hi => ⟨_, dig_get d i (by rwa [dig_size] at hi), rfl⟩
theorem byteOf_range (x : Int) (i : Nat) : 0 ≤ byteOf x i ∧ byteOf x i < 256 := by unfold byteOf; omega
theorem u8_of (x : Int) (h0 : 0 ≤ x) (h1 : x < 256) : ((UInt8.ofNat x.toNat).toNat : Int) = x := by
  have h : x.toNat < 256 := by omega
  rw [UInt8.toNat_ofNat_of_lt' h]
  omega
theorem dig_sha (l : List UInt8) (cs : Array Value) (hs : cs.size = 32) (hc : ∀ i, i < 32 → cs[i]? = some (.int .u8 (digByte (shaEnd (byteAt l) l.length) i))) : cs = dig (sha l) := by
  apply Array.ext_getElem?
  intro i
  by_cases h : i < 32
  · rw [hc i h, dig_get _ i (by rw [sha_length]; exact h), byteAt, sha]
    have hb : 0 ≤ digByte (shaEnd (byteAt l) l.length) i ∧ digByte (shaEnd (byteAt l) l.length) i < 256 := byteOf_range _ _
    simp only [List.getD_eq_getElem?_getD, List.getElem?_map, List.getElem?_range h, Option.map_some, Option.getD_some]
    rw [u8_of _ hb.1 hb.2]
  · rw [Array.getElem?_eq_none (by omega), Array.getElem?_eq_none (by rw [dig_size, sha_length]; omega)]

/-- The result is this value, and what was there before the call is as it was. -/
def Ret (v : Value) (w : World) (e : Ending) (w' : World) : Prop := e = .returned v ∧ Below w.heap.size w w'

theorem sum_bytes (l : List UInt8) (A : Option Addr) (cap : Nat) (w : World) (hL : Laid w) (hA : RdB w w.heap.size A l) (hn : l.length ≤ cap) (hcap : cap ≤ 9223372036854775807) (hn48 : l.length ≤ 281474976710656) :
    Calls Tryd.prog 101 #[.slice A l.length cap] w (Ret (.agg (dig (sha l))) w) :=
  (sum_any A l.length cap (byteAt l) w hL hA hn hcap hn48).mono fun _ _ ⟨⟨cs, he, hs, hc⟩, hb⟩ => ⟨by rw [he, dig_sha l cs hs hc], hb⟩

section
variable {ops : Array Oper} {rest : List Oper} {o : Oper} {a : Act} {Q : Exit → Act → World → Prop} (w : World)
theorem src_bytes {B : Nat} {A : Option Addr} {l : List UInt8} {c : Nat} (hR : RdB w B A l) : Src Tryd.prog 1 39 (.slice A l.length c) l.length (bcells l) w := by
  have h := src_rd (P := Tryd.prog) w (size := 1) (tx := 39) Tryd.underlying39 (c := c) (by rw [Nat.mul_one]; exact hR) (by decide) (fun k _ => rfl)
  rw [Nat.mul_one, range_bytes] at h
  exact h
theorem src_string (s : ByteArray) : Src Tryd.prog 1 9 (.string s) s.size (bcells s.data.toList) w := Src.ofString w Tryd.underlying9 s
/-- 'b = append(b, ..)' of bytes onto bytes of the call's own. -/
theorem app_bytes (hgd : o.guard = none) (s x : Operand) (tx : TypeId) (ho : o.op = .call { callee := .builtin .append, args := #[s, x], argTypes := #[39, tx] })
    (base : Nat) (v : Value) (n : Nat) (xs : List Value) (hs : a.eval s = v) (hown : w.ownsRow base 5 1 v n xs)
    (xv : Value) (m : Nat) (news : List Value) (hx : a.eval x = xv) (hsrc : Src Tryd.prog 1 tx xv m news w) (h47 : n + m ≤ 140737488355328) (hbase : base ≤ w.heap.size)
    (h : ∀ v' w', w'.ownsRow base 5 1 v' (n + m) (xs ++ news) → Grew w w' v v' → wpList Tryd.prog ops Q rest (a.put o.dst v') w') : wpList Tryd.prog ops Q (o :: rest) a w :=
  wpList_append_src w hgd s x 39 tx ho base 5 bInfo (.int .u8 0) 1 1 Tryd.underlying39 bInfo_eq bInfo_zero bInfo_size bInfo_bytes rfl v n xs hs hown xv m news hx hsrc (by simp only [maxLen]; omega) (by omega) hbase h
end
end Go.Proofs.YtibnikokgbfcdaaDoor

/- Walks: podiumref31.Text, Number, List, Tagged. -/
import Derived.Test.YtibnikokgbfcdaaDoorB9
import Derived.Test.YtibnikokgbfcdaaDoorC1
namespace Go.Proofs.YtibnikokgbfcdaaDoor
open Go Go.RowKit

theorem bcells_take_succ (d : List UInt8) (k : Nat) (h : k < d.length) : bcells (d.take (k + 1)) = bcells (d.take k) ++ [B8 (d.getD k 0)] := by
  rw [List.take_succ_eq_append_getElem h, bcells_append]
  simp [bcells, List.getD_eq_getElem?_getD, List.getElem?_eq_getElem h]
set_option maxRecDepth 100000 in
set_option linter.unusedSimpArgs false in
set_option linter.unusedVariables false in
set_option maxHeartbeats 4000000 in
theorem r31Text_any (d : List UInt8) (hd : d.length = 32) (w : World) : Calls Tryd.prog 98 #[.agg (dig d)] w (Ret (.agg #[.int .i64 2, .int .i64 0, .string ⟨d.toArray⟩, .slice none 0 0]) w) := by
  go_enter Tryd.func98, Tryd.ntmps98
  go_wp2_with fail
  have hO0 : ((((w.alloc (.cells (dig d) 23)).alloc (.cells #[.int .i64 0, .int .i64 0, .string ⟨#[]⟩, .slice none 0 0] 93)).alloc (.cells #[] 5))).ownsRow (w.heap.size + 2) 5 1 (.slice (some ⟨w.heap.size + 1 + 1, 0, none⟩) 0 0) 0 (bcells []) :=
    ⟨rfl, .inr ⟨w.heap.size + 1 + 1, 0, #[], rfl, by omega, by
      have h := heap_alloc_new ((w.alloc (.cells (dig d) 23)).alloc (.cells #[.int .i64 0, .int .i64 0, .string ⟨#[]⟩, .slice none 0 0] 93)) (.cells #[] 5)
      simpa using h, Nat.le_refl _, by simp only [maxLen]; omega, rfl, rfl⟩⟩
  have hb0 : Below w.heap.size w (((w.alloc (.cells (dig d) 23)).alloc (.cells #[.int .i64 0, .int .i64 0, .string ⟨#[]⟩, .slice none 0 0] 93)).alloc (.cells #[] 5)) := (((Below.refl _ w).alloc (Nat.le_refl _) _).alloc (by simp) _).alloc (by simp; omega) _
  have bd0 : Blk (((w.alloc (.cells (dig d) 23)).alloc (.cells #[.int .i64 0, .int .i64 0, .string ⟨#[]⟩, .slice none 0 0] 93)).alloc (.cells #[] 5)) w.heap.size 23 (dig d) := ((Blk.new w _ _).alloc _).alloc _
  have bz0 : Blk (((w.alloc (.cells (dig d) 23)).alloc (.cells #[.int .i64 0, .int .i64 0, .string ⟨#[]⟩, .slice none 0 0] 93)).alloc (.cells #[] 5)) (w.heap.size + 1) 93 #[.int .i64 0, .int .i64 0, .string ⟨#[]⟩, .slice none 0 0] := (Blk.new' _ _ _ (by simp)).alloc _
  have hz0 : (((w.alloc (.cells (dig d) 23)).alloc (.cells #[.int .i64 0, .int .i64 0, .string ⟨#[]⟩, .slice none 0 0] 93)).alloc (.cells #[] 5)).heap.size = w.heap.size + 3 := by simp
  generalize ((w.alloc (.cells (dig d) 23)).alloc (.cells #[.int .i64 0, .int .i64 0, .string ⟨#[]⟩, .slice none 0 0] 93)).alloc (.cells #[] 5) = w0 at hO0 hb0 bd0 bz0 hz0 ⊢
  go_loopw [3, 4] (fun v jj wr => ∃ t : Nat, t ≤ 32 ∧ jj = .int .i64 t ∧ wr.ownsRow (w.heap.size + 2) 5 1 v t (bcells (d.take t)) ∧ Below (w.heap.size + 2) w0 wr) (fun _ jj _ => 32 - (intOf jj).toNat)
  case atStart => exact ⟨0, by omega, rfl, hO0, Below.refl _ _⟩
  case round =>
    clear hO0
    obtain ⟨t, ht, rfl, hO, hB⟩ := hrel
    have bd1 := bd0.below hB (by omega)
    have bz1 := bz0.below hB (by omega)
    have hzr := hB.size
    by_cases hlt : t < 32
    · have hc : wr.cell? ⟨w.heap.size, t, none⟩ = some (.int .u8 ((d.getD t 0).toNat : Int)) := (bd1.cell t).trans (dig_get d t (by omega))
      obtain ⟨y, hy⟩ : ∃ y : Nat, y = (d.getD t 0).toNat := ⟨_, rfl⟩
      rw [← hy] at hc
      have HY := Lib.hid hy
      have HO := Lib.hid hO
      clear hO hy
      go_wp2_with (at_builtin; refine app_byte rfl _ _ rfl (w.heap.size + 2) wr u3 t (bcells (d.take t)) rfl HO.out (d.getD t 0) (y : Int) (by rw [HY.out]) 5 rfl (by omega) (by omega) ?_; intro v2 w2 hown2 hg2)
      go_roundw
      case rel => exact ⟨t + 1, by omega, by go_num, by rw [bcells_take_succ d t (by omega)]; exact hown2, hB.trans (hg2.below (by omega) fun g hg => (World.ownsRow.lt HO.out g hg).1)⟩
      case measure => simp [intOf]; omega
    · obtain rfl : t = 32 := by omega
      rw [List.take_of_length_le (by omega)] at hO
      obtain ⟨A, c, rfl, hn, -, -, hR⟩ := own_shape hO
      have hBf := hb0.trans (hB.mono (by omega))
      have HR := Lib.hid hR
      have HN := Lib.hid hn
      have z0 : wr.cell? ⟨w.heap.size + 1, 0, none⟩ = some (.int .i64 0) := bz1.cell 0
      have z1 : wr.cell? ⟨w.heap.size + 1, 1, none⟩ = some (.int .i64 0) := bz1.cell 1
      have z2 : wr.cell? ⟨w.heap.size + 1, 2, none⟩ = some (.string ⟨#[]⟩) := bz1.cell 2
      have z3 : wr.cell? ⟨w.heap.size + 1, 3, none⟩ = some (.slice none 0 0) := bz1.cell 3
      have f0 := bz1.frozen 0
      have f1 := bz1.frozen 1
      have f2 := bz1.frozen 2
      have f3 := bz1.frozen 3
      have HD6 := Lib.hid ((((bz1.set 0 (.int .i64 2)).set 1 (.int .i64 0)).set 2 (.string ⟨d.toArray⟩)).set 3 (.slice none 0 0))
      have HBF := Lib.hid hBf
      clear hR hO hn bd0 bz0 hb0 bz1 bd1 hBf hB
      go_wp2_with (refine to_str2 rfl _ rfl rfl rfl HR.out ?_)
      refine bodyPost_ret (results_cell_row rfl _ _ (w.heap.size + 1) 93 _ (0, 0) _ rfl HD6.out Tryd.underlying93 rfl valueSize) rfl ?_
      exact ⟨rfl, (((HBF.out.setCell (p := ⟨w.heap.size + 1, 0, none⟩) (Nat.le_succ _) _).setCell (p := ⟨w.heap.size + 1, 1, none⟩) (Nat.le_succ _) _).setCell (p := ⟨w.heap.size + 1, 2, none⟩) (Nat.le_succ _) _).setCell (p := ⟨w.heap.size + 1, 3, none⟩) (Nat.le_succ _) _⟩
set_option maxRecDepth 100000 in
set_option maxHeartbeats 1000000 in
theorem r31Number_any (k : Int) (w : World) : Calls Tryd.prog 97 #[.int .i64 k] w (Ret (.agg #[.int .i64 1, .int .i64 k, .string ⟨#[]⟩, .slice none 0 0]) w) := by
  go_enter Tryd.func97, Tryd.ntmps97
  go_wp2
  refine bodyPost_ret (results_cell_row rfl _ _ w.heap.size 93 _ (0, 0) _ rfl (Blk.new w 93 #[.int .i64 1, .int .i64 k, .string ⟨#[]⟩, .slice none 0 0]) Tryd.underlying93 rfl valueSize) rfl ?_
  exact ⟨rfl, (Below.refl _ w).alloc (Nat.le_refl _) _⟩
set_option maxRecDepth 100000 in
set_option maxHeartbeats 1000000 in
theorem r31List_any (A : Option Addr) (n c : Nat) (w : World) : Calls Tryd.prog 96 #[.slice A n c] w (Ret (.agg #[.int .i64 3, .int .i64 0, .string ⟨#[]⟩, .slice A n c]) w) := by
  go_enter Tryd.func96, Tryd.ntmps96
  go_wp2
  refine bodyPost_ret (results_cell_row rfl _ _ w.heap.size 93 _ (0, 0) _ rfl (Blk.new w 93 #[.int .i64 3, .int .i64 0, .string ⟨#[]⟩, .slice A n c]) Tryd.underlying93 rfl valueSize) rfl ?_
  exact ⟨rfl, (Below.refl _ w).alloc (Nat.le_refl _) _⟩
set_option maxRecDepth 100000 in
set_option linter.unusedSimpArgs false in
set_option linter.unusedVariables false in
set_option maxHeartbeats 2000000 in
theorem r31Tagged_any (s : ByteArray) (hs : s.size ≤ 1000) (k n st sl : Value) (x : V4) (hxa : x.agg = .agg #[k, n, st, sl]) (dp : Nat) (e : List UInt8) (w : World) (hx : REnc w x dp e) (hd : dp ≤ 16) (he : e.length ≤ 1000000) :
    Calls Tryd.prog 99 #[.string s, .agg #[k, n, st, sl]] w (Ret (.agg (dig (tagged s.data.toList e))) w) := by
  have HX := Lib.hid (fun W (hb : Below w.heap.size w W) => rEncode_ok x dp e W (hx.later hb) hd)
  rw [hxa] at HX
  have HRT := Lib.hid (fun W A c (h : RdB W W.heap.size A e) => rtagged_any s A e c W h (by omega) (by omega))
  have hel : ∃ m, m = e.length := ⟨_, rfl⟩
  clear hx hxa
  go_enter Tryd.func99, Tryd.ntmps99
  go_wp2_with fail
  refine calls_gen (fun W => Blk W (w.heap.size + 1) 23 (dig zdg) ∧ Below w.heap.size w W) ⟨Blk.new' _ _ _ (by simp), ((Below.refl _ w).alloc (Nat.le_refl _) _).alloc (by simp) _⟩ (fun w1 ⟨bz1, hB1⟩ => ?_)
  refine (HX.out w1 hB1).mono ?_
  rintro en w2 ⟨v, rfl, hown, hb2⟩
  obtain ⟨A, c, rfl, -, -, -, hr⟩ := own_shape hown
  have bz2 := bz1.below hb2 bz1.lt
  have hB2 := hB1.trans (hb2.mono hB1.size)
  have HT := Lib.hid (HRT.out w2 A c hr)
  obtain ⟨V, hV⟩ : ∃ V, V = tagged s.data.toList e := ⟨_, rfl⟩
  have hVl : V.length = 32 := by rw [hV]; exact tagged_length _ _
  rw [← hV] at HT
  have HV := Lib.hid hV
  clear hown hb2 hr hV hB1 bz1
  go_wp2_with fail
  refine HT.out.mono ?_
  rintro en w3 ⟨rfl, hb3⟩
  have bz3 := bz2.below hb3 bz2.lt
  have hB3 := hB2.trans (hb3.mono hB2.size)
  clear hb3 bz2 hB2
  go_wp2_with (refine store_dig rfl _ _ rfl bz3 V hVl rfl rfl rfl ?_; intro w8 hD8 hO8 hz8)
  refine bodyPost_ret (results_cell_row rfl _ _ (w.heap.size + 1) 23 _ (0, 0) _ rfl hD8 Tryd.underlying23 rfl (dig_info _ hVl)) rfl ?_
  exact ⟨by rw [← HV.out], hB3.trans (hO8.toBelow hB3.size (Nat.le_succ _))⟩
end Go.Proofs.YtibnikokgbfcdaaDoor

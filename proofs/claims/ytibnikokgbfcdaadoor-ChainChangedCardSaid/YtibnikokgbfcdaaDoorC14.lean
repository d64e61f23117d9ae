/- Walk: podiumlaw08.sane. -/
import Derived.Test.YtibnikokgbfcdaaDoorChS
import Derived.Lib.SlBytesConst
namespace Go.Proofs.YtibnikokgbfcdaaDoor
open Go Go.RowKit

theorem rdb_marked (w : World) (t : TypeId) (fr : Nat × Nat) (c : UInt8) (z : Int) (hz : z = (c.toNat : Int)) : RdB (w.alloc (.cells #[.int .u8 z] t fr)) (w.alloc (.cells #[.int .u8 z] t fr)).heap.size (some ⟨w.heap.size, 0, none⟩) [c] := fun _ => by
  refine ⟨w.heap.size, 0, rfl, by simp, fun k hk => ?_⟩
  obtain rfl : k = 0 := by simpa using hk
  rw [hz]
  exact cell_of_row _ w.heap.size 0 _ t fr (heap_alloc_new w _)
theorem slice_from1 (W : World) (b off c : Nat) (hc : 2 ≤ c) : (Instr.slice 43 (.slice (some ⟨b, off, none⟩) 2 c) (some (.int .i64 1)) none none).run Tryd.prog W = .ok (.slice (some ⟨b, off + 35, none⟩) 1 (c - 1)) W := by
  have h1 : ¬ c = 1 := by omega
  have h2 : 1 ≤ c := by omega
  have hs : (sizeOf 52).run Tryd.prog W = .ok 35 W := by kernel_rfl
  simp [Instr.slice, run_underlying Tryd.underlying43, Instr.sliceBounds, Instr.sliceBound, asIntOf, h1, hs, Addr.add_mid]
theorem src_three (W : World) : Src Tryd.prog 1 39 (.slice (some ⟨W.heap.size, 0, none⟩) 3 3) 3 (bcells [2, 1, 120]) (W.alloc (.cells #[.int .u8 2, .int .u8 1, .int .u8 120] 5)) :=
  src_bytes (l := [2, 1, 120]) (c := 3) _ (RdB.of_blk (Blk.new W 5 #[.int .u8 2, .int .u8 1, .int .u8 120]) fun k hk => by
    rcases k with _ | _ | _ | k
    · rfl
    · rfl
    · rfl
    · exact absurd hk (by show ¬ k + 1 + 1 + 1 < 3; omega))
theorem sub_prev {w : World} {b o : Nat} {x : Lk} {D : Value} (h : w.rangeAt b o (x.cells D)) (hp : x.prev.length = 32) : w.rangeAt b (o + 2) (dig x.prev).toList := fun j v hv => by
  have hj : j < 32 := by
    have := (List.getElem?_eq_some_iff.1 hv).1
    simpa [dig_size, hp] using this
  rw [Nat.add_assoc]
  refine h (2 + j) v ?_
  rw [Lk.at_prev x D hp j hj]
  simpa using hv
theorem quiet_eql_dig {ops : Array Oper} {C : World → Prop} {Q : Act → Prop} {o : Oper} {rest : List Oper} {a : Act} (hw : Region.wanted o (yielded ops a.tmps) = true) (x y : Operand) (t : TypeId) (ho : o.op = .binOp .eql 23 x y t) (d e : List UInt8) (hd : d.length = 32) (he : e.length = 32)
    (hx : a.eval x = .agg (dig d)) (hy : a.eval y = .agg (dig e)) (h : wpQuiet Tryd.prog ops C Q rest (a.put o.dst (.bool (decide (d = e))))) : wpQuiet Tryd.prog ops C Q (o :: rest) a :=
  BigFrame.wpQuiet_want hw fun K hK => ⟨_, fun w _ => by
    have hg : (eqGuard .eql 23 x y (.agg (dig d)) (.agg (dig e))).run Tryd.prog w = .ok () w := run_eqGuard_agg _ _ _ _ _ _ _ Tryd.eqGuardType23
    unfold Oper.quietAt execOp
    simp only [ho, hx, hy, hg, run_eql_dig d e hd he w, Sem.run_bind, Sem.run_pure, Result.andThen_ok]
    exact ⟨rfl, rfl⟩, hK _ h⟩
theorem LRd.drop {w : World} {B : Nat} {b off : Nat} {l : List Lk} (h : LRd w B (some ⟨b, off, none⟩) l) (k : Nat) : LRd w B (some ⟨b, off + k * 35, none⟩) (l.drop k) := fun hn => by
  obtain ⟨b', off', e, hB, hc⟩ := h (by rw [List.length_drop] at hn; omega)
  cases e
  refine ⟨b, off + k * 35, rfl, hB, fun i x hx => ?_⟩
  rw [List.getElem?_drop] at hx
  have := hc (k + i) x hx
  rw [show off + k * 35 + i * 35 = off + (k + i) * 35 by rw [Nat.add_mul]; omega]
  exact this
set_option maxRecDepth 100000 in
set_option linter.unusedSimpArgs false in
set_option linter.unusedVariables false in
set_option maxHeartbeats 16000000 in
theorem sane08_ok (w : World) (hL : Laid w) : Calls Tryd.prog 37 #[] w (Ret (.bool true) w) := by
  have HL := Lib.hid hL
  have HN0 := Lib.hid (fun W (hW : Laid W) D c (hD : RdB W W.heap.size (some D) [120]) => add_ok none (some D) [] 3 [120] 0 0 1 c 1 rfl rfl (by decide) (by decide) rfl (by decide) (fun e => by cases e) W hW LRd.nil hD (few_data chkOk_nil) (addErr_nil 1 (by decide)))
  have HN1 := Lib.hid (fun W (hW : Laid W) A c k (hc : 1 ≤ c) (hc2 : c ≤ 9223372036854775807) (hA : LRd W W.heap.size A laS) D x (hD : RdB W W.heap.size (some D) [x]) => add_ok A (some D) laS 3 [x] 1 c 1 k 2 rfl rfl hc hc2 rfl (by decide) (fun e => by cases e) W hW hA hD (few_data laS_ok) (addErr_la 1 (by decide)))
  have HN2 := Lib.hid (fun W (hW : Laid W) => add_no none none [] 24 [] 0 0 0 0 1 rfl (by decide) (by decide) rfl (by decide) (fun _ => ⟨rfl, rfl⟩) W hW LRd.nil RdB.nil (few_data chkOk_nil) addErr_24 (by decide))
  have HN3 := Lib.hid (fun W (hW : Laid W) A c (hc : 1 ≤ c) (hc2 : c ≤ 9223372036854775807) (hA : LRd W W.heap.size A laS) => add_no A none laS 4 [] 1 c 0 0 1 rfl hc hc2 rfl (by decide) (fun _ => ⟨rfl, rfl⟩) W hW hA RdB.nil (few_data laS_ok) addErr_4 (by decide))
  have kc := fun (w : World) (C : Array Value) (n c : Nat) => Lib.run_convert_bytes_const (P := Tryd.prog) w 39 5 C n c Tryd.underlying39 Tryd.underlying5
  clear hL
  go_enter Tryd.func37, Tryd.ntmps37
  go_wp2_with fail
  have hB1 : Below w.heap.size w (w.alloc (.cells #[.int .u8 120] 5 (1, 2))) := (Below.refl _ w).alloc (Nat.le_refl _) _
  have hD1 := rdb_marked w 5 (1, 2) 120 120 rfl
  refine (HN0.out _ (HL.out.below hB1) _ _ hD1).mono ?_
  rintro e w1 ⟨A, ca, rfl, hca, hca2, hla, hb1⟩
  obtain ⟨bA, oA, rfl, -⟩ := LRd.at_ (l := laS) (k := 0) hla rfl
  have ha1 : LRd w1 w1.heap.size (some ⟨bA, oA, none⟩) laS := hla
  have hB := hB1.trans (hb1.mono hB1.size)
  clear hB1 hD1 hb1 hla
  go_wp2_with fail
  have hB1 : Below w.heap.size w (w1.alloc (.cells #[.int .u8 121] 5 (1, 2))) := hB.alloc hB.size _
  have hc1 : Below w1.heap.size w1 (w1.alloc (.cells #[.int .u8 121] 5 (1, 2))) := (Below.refl _ w1).alloc (Nat.le_refl _) _
  have hD1 := rdb_marked w1 5 (1, 2) 121 121 rfl
  refine (HN1.out _ (HL.out.below hB1) (some ⟨bA, oA, none⟩) ca 1 hca hca2 (ha1.later hc1) _ _ hD1).mono ?_
  rintro e w2 ⟨B, cB, rfl, hcB, hcB2, hlB, hb1⟩
  have hS := hc1.trans (hb1.mono hc1.size)
  have ha2 := ha1.later hS
  obtain ⟨bB, oB, rfl, -⟩ := LRd.at_ (l := lbS) (k := 0) hlB rfl
  have hbb : LRd w2 w2.heap.size (some ⟨bB, oB, none⟩) lbS := hlB
  have hB2 := hB.trans (hS.mono hB.size)
  clear hB1 hD1 hb1 hlB hc1 hS ha1 hB
  have hB := hB2
  have ha1 := ha2
  clear hB2 ha2
  go_wp2_with fail
  have hB1 : Below w.heap.size w (w2.alloc (.cells #[.int .u8 122] 5 (1, 2))) := hB.alloc hB.size _
  have hc1 : Below w2.heap.size w2 (w2.alloc (.cells #[.int .u8 122] 5 (1, 2))) := (Below.refl _ w2).alloc (Nat.le_refl _) _
  have hD1 := rdb_marked w2 5 (1, 2) 122 122 rfl
  refine (HN1.out _ (HL.out.below hB1) (some ⟨bA, oA, none⟩) ca 1 hca hca2 (ha1.later hc1) _ _ hD1).mono ?_
  rintro e w3 ⟨C, cC, rfl, hcC, hcC2, hlC, hb1⟩
  have hS := hc1.trans (hb1.mono hc1.size)
  have ha3 := ha1.later hS
  have hbb3 := hbb.later hS
  have hcc3 : LRd w3 w3.heap.size C lcS := hlC
  have hB3 := hB.trans (hS.mono hB.size)
  clear hB1 hD1 hb1 hlC hc1 hS ha1 hB hbb kc
  go_wp2_with fail
  refine (HN2.out _ (HL.out.below hB3)).mono ?_
  rintro e w4 ⟨rfl, hb4⟩
  have hB4 := hB3.trans (hb4.mono hB3.size)
  have ha4 := ha3.later hb4
  have hbb4 := hbb3.later hb4
  have hcc4 := hcc3.later hb4
  clear hb4 hB3 ha3 hbb3 hcc3
  go_wp2_with fail
  refine (HN3.out _ (HL.out.below hB4) (some ⟨bA, oA, none⟩) ca hca hca2 ha4).mono ?_
  rintro e w5 ⟨rfl, hb5⟩
  have hB5 := hB4.trans (hb5.mono hB4.size)
  have ha5 := ha4.later hb5
  have hbb5 := hbb4.later hb5
  have hcc5 := hcc4.later hb5
  clear hb5 hB4 ha4 hbb4 hcc4
  have hP1 := part_any (some ⟨bB, oB, none⟩) C lbS lcS 2 2 cB cC rfl rfl hcB hcC hcB2 hcC2 w5 (HL.out.below hB5) hbb5 hcc5 (few_data lbS_ok) (few_data lcS_ok)
  rw [part_bc] at hP1
  have HP1 := Lib.hid hP1
  clear hP1
  go_wp2_with fail
  refine HP1.out.mono ?_
  rintro e w6 ⟨rfl, hb6⟩
  have hB6 := hB5.trans (hb6.mono hB5.size)
  have ha6 := ha5.later hb6
  have hbb6 := hbb5.later hb6
  clear hb6 hB5 ha5 hbb5 hcc5 HP1
  simp only [partVal]
  have hP1 := part_any (some ⟨bA, oA, none⟩) (some ⟨bB, oB, none⟩) laS lbS 1 2 ca cB rfl rfl hca hcB hca2 hcB2 w6 (HL.out.below hB6) ha6 hbb6 (few_data laS_ok) (few_data lbS_ok)
  rw [part_ab] at hP1
  have HP1 := Lib.hid hP1
  clear hP1
  go_wp2_with fail
  refine HP1.out.mono ?_
  rintro e w7 ⟨rfl, hb7⟩
  have hB7 := hB6.trans (hb7.mono hB6.size)
  have ha7 := ha6.later hb7
  have hbb7 := hbb6.later hb7
  clear hb7 hB6 ha6 hbb6 HP1
  simp only [partVal]
  have hP1 := part_any none (some ⟨bA, oA, none⟩) [] laS 0 1 0 ca rfl rfl (Nat.le_refl _) hca (by decide) hca2 w7 (HL.out.below hB7) LRd.nil ha7 (few_data chkOk_nil) (few_data laS_ok)
  rw [part_na] at hP1
  have HP1 := Lib.hid hP1
  clear hP1
  go_wp2_with fail
  refine HP1.out.mono ?_
  rintro e w8 ⟨rfl, hb8⟩
  have hB8 := hB7.trans (hb8.mono hB7.size)
  have ha8 := ha7.later hb8
  have hbb8 := hbb7.later hb8
  clear hb8 hB7 ha7 hbb7 HP1
  simp only [partVal]
  have hK := check_any none [] 0 0 rfl (by decide) (Nat.le_refl _) w8 (HL.out.below hB8) LRd.nil (few_data chkOk_nil)
  rw [nil_chk] at hK
  have HK := Lib.hid hK
  clear hK
  go_wp2_with (refine wpList_skip (by rfl) ?_)
  refine HK.out.mono ?_
  rintro e w9 ⟨rfl, hb9⟩
  have hB9 := hB8.trans (hb9.mono hB8.size)
  have ha9 := ha8.later hb9
  have hbb9 := hbb8.later hb9
  clear hb9 hB8 ha8 hbb8 HK
  have hK := check_any (some ⟨bB, oB, none⟩) lbS 2 cB rfl (by decide) hcB w9 (HL.out.below hB9) hbb9 (few_data lbS_ok)
  rw [lbS_chk] at hK
  have HK := Lib.hid hK
  clear hK
  go_wp2_with (refine wpList_skip (by rfl) ?_)
  refine HK.out.mono ?_
  rintro e w10 ⟨rfl, hb10⟩
  have hB10 := hB9.trans (hb10.mono hB9.size)
  have ha10 := ha9.later hb10
  have hbb10 := hbb9.later hb10
  clear hb10 hB9 ha9 hbb9 HK
  go_wp2_with (refine wpList_skip (by rfl) ?_)
  have hz : (#[.int .i64 0, .int .i64 1, .int .u8 0, .int .u8 0, .int .u8 0, .int .u8 0, .int .u8 0, .int .u8 0, .int .u8 0, .int .u8 0, .int .u8 0, .int .u8 0, .int .u8 0, .int .u8 0, .int .u8 0, .int .u8 0, .int .u8 0, .int .u8 0, .int .u8 0, .int .u8 0, .int .u8 0, .int .u8 0, .int .u8 0, .int .u8 0, .int .u8 0, .int .u8 0, .int .u8 0, .int .u8 0, .int .u8 0, .int .u8 0, .int .u8 0, .int .u8 0, .int .u8 0, .int .u8 0, .slice none 0 0] : Array Value) = ((⟨0, 1, zd, []⟩ : Lk).cells (.slice none 0 0)).toArray := by kernel_rfl
  rw [hz]
  have hX : Blk (w10.alloc (.cells ((⟨0, 1, zd, []⟩ : Lk).cells (.slice none 0 0)).toArray 52)) w10.heap.size 52 ((⟨0, 1, zd, []⟩ : Lk).cells (.slice none 0 0)).toArray := Blk.new _ _ _
  have hc11 : Below w10.heap.size w10 (w10.alloc (.cells ((⟨0, 1, zd, []⟩ : Lk).cells (.slice none 0 0)).toArray 52)) := (Below.refl _ w10).alloc (Nat.le_refl _) _
  generalize w10.alloc (.cells ((⟨0, 1, zd, []⟩ : Lk).cells (.slice none 0 0)).toArray 52) = w11 at hX hc11 ⊢
  have hB11 := hB10.trans (hc11.mono hB10.size)
  have ha11 := ha10.later hc11
  have hbb11 := hbb10.later hc11
  have hlz : LRd w11 w11.heap.size (some ⟨w10.heap.size, 0, none⟩) lzS := fun _ => ⟨w10.heap.size, 0, rfl, hX.lt, fun k x hx => by
    rcases k with _ | k
    · obtain rfl := Option.some.inj hx
      exact ⟨rfl, none, 0, rangeAt_of_blk_toArray hX, Nat.le_refl _, by decide, RdB.nil⟩
    · cases hx⟩
  have hK := check_any (some ⟨w10.heap.size, 0, none⟩) lzS 1 1 rfl (by decide) (Nat.le_refl _) w11 (HL.out.below hB11) hlz (fun y hy => by
    obtain rfl : y = 0 := by have : y < 1 := hy; omega
    decide)
  rw [lzS_chk] at hK
  have HK := Lib.hid hK
  clear hK hX hz hlz hc11 ha10 hbb10 hB10
  refine HK.out.mono ?_
  rintro e w12 ⟨rfl, hb12⟩
  have hB12 := hB11.trans (hb12.mono hB11.size)
  have ha12 := ha11.later hb12
  have hbb12 := hbb11.later hb12
  clear hb12 hB11 ha11 hbb11 HK
  have hslf := fun W => slice_from1 W bB oB cB hcB
  have hdr : LRd w12 w12.heap.size (some ⟨bB, oB + 35, none⟩) (lbS.drop 1) := hbb12.drop 1
  have hK := check_any (some ⟨bB, oB + 35, none⟩) (lbS.drop 1) 1 (cB - 1) rfl (by decide) (by omega) w12 (HL.out.below hB12) hdr (fun y hy => by
    obtain rfl : y = 0 := by have : y < 1 := hy; omega
    show ([121] : List UInt8).length ≤ _
    decide)
  rw [drop_chk] at hK
  have HK := Lib.hid hK
  clear hK hdr
  go_wp2_with (refine wpList_skip (by rfl) ?_)
  refine HK.out.mono ?_
  rintro e w13 ⟨rfl, hb13⟩
  have hB13 := hB12.trans (hb13.mono hB12.size)
  have ha13 := ha12.later hb13
  have hbb13 := hbb12.later hb13
  clear hb13 hB12 ha12 hbb12 HK hslf
  have HTG := Lib.hid (tagged_any ⟨#[110, 111, 110, 101]⟩ none [] 0 w13 (HL.out.below hB13) Rd.zero (by decide) (by decide))
  go_wp2_with fail
  refine HTG.out.mono ?_
  rintro e w14 ⟨rfl, hb14⟩
  have hB14 := hB13.trans (hb14.mono hB13.size)
  have ha14 := ha13.later hb14
  have hbb14 := hbb13.later hb14
  clear hb14 hB13 ha13 hbb13 HTG
  obtain ⟨S, hS⟩ : ∃ S, S = headOf [] := ⟨_, rfl⟩
  have hSl : S.length = 32 := by rw [hS]; exact headOf_length _
  rw [show tagged (⟨#[110, 111, 110, 101]⟩ : ByteArray).data.toList [] = S from hS.symm]
  have hD : Blk (w14.alloc (.cells (dig S) 23)) w14.heap.size 23 (dig S) := Blk.new _ _ _
  have hc15 : Below w14.heap.size w14 (w14.alloc (.cells (dig S) 23)) := (Below.refl _ w14).alloc (Nat.le_refl _) _
  have HS := Lib.hid hS
  clear hS
  obtain ⟨w15, hw15⟩ : ∃ w15, w15 = w14.alloc (.cells (dig S) 23) := ⟨_, rfl⟩
  obtain ⟨g, hg⟩ : ∃ g, g = w14.heap.size := ⟨_, rfl⟩
  rw [← hw15, ← hg] at hD
  rw [← hw15] at hc15
  have hgl := hD.lt
  have hbl : [3, 4, 1, 6, 1, 0, 2, 32].length = 8 := rfl
  have hO0 : (w15.alloc (.cells #[.int .u8 3, .int .u8 4, .int .u8 1, .int .u8 6, .int .u8 1, .int .u8 0, .int .u8 2, .int .u8 32] 5)).ownsRow w15.heap.size 5 1 (.slice (some ⟨w15.heap.size, 0, none⟩) 8 8) 8 (bcells [3, 4, 1, 6, 1, 0, 2, 32]) := own_bytes_new w15 w15.heap.size (Nat.le_refl _) [3, 4, 1, 6, 1, 0, 2, 32] (by decide)
  have hc16 : Below w15.heap.size w15 (w15.alloc (.cells #[.int .u8 3, .int .u8 4, .int .u8 1, .int .u8 6, .int .u8 1, .int .u8 0, .int .u8 2, .int .u8 32] 5)) := (Below.refl _ w15).alloc (Nat.le_refl _) _
  have hRS : RdB w15 w15.heap.size (some ⟨g, 0, none⟩) S := RdB.of_blk hD fun k hk => by rw [Nat.zero_add]; exact dig_get S k hk
  have hsrc := src_bytes (c := 32) _ (Rd.below hRS hc16)
  rw [hSl] at hsrc
  have HO0 := Lib.hid hO0
  have HSRC := Lib.hid hsrc
  have HC16 := Lib.hid hc16.size
  have HCB := Lib.hid hc16
  have HW := Lib.hid hw15
  have HG := Lib.hid hg
  clear hO0 hsrc hw15 hg hRS
  go_wp2_with (first
    | (refine store_dig_new rfl _ _ rfl w14 _ _ S hSl rfl rfl rfl ?_; rw [← HW.out, ← HG.out])
    | (at_builtin; refine app_bytes _ rfl _ _ 39 rfl w15.heap.size (.slice (some ⟨w15.heap.size, 0, none⟩) 8 8) 8 (bcells [3, 4, 1, 6, 1, 0, 2, 32]) rfl HO0.out (.slice (some ⟨g, 0, none⟩) 32 32) 32 (bcells S) rfl HSRC.out (by omega) HC16.out ?_; intro v16 w16 hown16 hg16
       have hb16 : Below w15.heap.size w15 w16 := HCB.out.trans (hg16.below HC16.out fun k hk => by cases hk; exact Nat.le_refl _)
       have hz16 := hb16.size)
    | (at_builtin; refine app_bytes _ rfl _ _ 39 rfl w15.heap.size v16 (8 + 32) (bcells [3, 4, 1, 6, 1, 0, 2, 32] ++ bcells S) rfl (World.ownsRow.alloc hown16 _) (.slice (some ⟨w16.heap.size, 0, none⟩) 3 3) 3 (bcells [2, 1, 120]) rfl (src_three w16) (by omega) (Nat.le_trans hz16 (by simp)) ?_; intro v17 w17 hown17 hg17))
  have hb17 : Below w15.heap.size w15 w17 := (hb16.alloc hz16 _).trans (hg17.below (Nat.le_trans hz16 (by simp)) fun k hk => (World.ownsRow.lt hown16 k hk).1)
  have hown : w17.ownsRow w15.heap.size 5 1 v17 (8 + 32 + 3) (bcells ([3, 4, 1, 6, 1, 0, 2, 32] ++ S ++ [2, 1, 120])) := by
    rw [bcells_append, bcells_append]
    exact hown17
  obtain ⟨hlen, TA, tc, rfl, -, -, hrT⟩ := own_slice hown
  have hbA := hc15.trans (hb17.mono hc15.size)
  have hB17 := hB14.trans (hbA.mono hB14.size)
  have ha17 := ha14.later hbA
  have hbb17 := hbb14.later hbA
  have hD17 := hD.below hb17 hgl
  obtain ⟨TX, hTX⟩ : ∃ TX, TX = [3, 4, 1, 6, 1, 0, 2, 32] ++ S ++ [2, 1, 120] := ⟨_, rfl⟩
  have hTl : TX.length = 43 := by rw [hTX]; simp [hSl]
  rw [← hTX] at hrT
  rw [show ([3, 4, 1, 6, 1, 0, 2, 32] ++ S ++ [2, 1, 120] : List UInt8).length = 43 by simp [hSl]]
  have HTX := Lib.hid hTX
  obtain ⟨T1, hT1⟩ : ∃ T1, T1 = headOf laS := ⟨_, rfl⟩
  have hT1l : T1.length = 32 := by rw [hT1]; exact headOf_length _
  have hT2 : tagged (⟨#[108, 105, 110, 107]⟩ : ByteArray).data.toList TX = T1 := by
    rw [hT1, head_la, hTX, HS.out]
    rfl
  have HT2 := Lib.hid hT2
  have HT1 := Lib.hid hT1
  clear hT2 hTX hown hown16 hown17 hg16 hg17 hb16 hb17 hz16 hlen hc16 hc15 hD hB14 ha14 hbb14
  -- the calls of the last statement, wherever it stands
  have hHN : ∀ i : Ext w17, Calls Tryd.prog 44 #[.slice none 0 0] i.W (Ret (.agg (dig S)) i.W) := fun i => by
    rw [HS.out]
    exact head_any none [] 0 0 rfl (by decide) (fun x h => by cases h) i.W (HL.out.below (hB17.trans (i.below.mono hB17.size))) LRd.nil
  have hHA : ∀ i : Ext w17, Calls Tryd.prog 44 #[.slice (some ⟨bA, oA, none⟩) 1 ca] i.W (Ret (.agg (dig T1)) i.W) := fun i => by
    rw [HT1.out]
    exact head_any (some ⟨bA, oA, none⟩) laS 1 ca rfl (by decide) (chk_fine laS_ok (by rw [laS_len]; decide)) i.W (HL.out.below (hB17.trans (i.below.mono hB17.size))) (ha17.later i.below)
  have hTT : ∀ i : Ext w17, Calls Tryd.prog 58 #[.string ⟨#[108, 105, 110, 107]⟩, .slice TA 43 tc] i.W (Ret (.agg (dig T1)) i.W) := fun i => by
    have h := tagged_any ⟨#[108, 105, 110, 107]⟩ TA TX tc i.W (HL.out.below (hB17.trans (i.below.mono hB17.size))) ((Rd.below hrT i.below).more i.below.size) (by omega) (by decide)
    rw [HT2.out, hTl] at h
    exact h
  have HHN := Lib.hid hHN
  have HHA := Lib.hid hHA
  have HTT := Lib.hid hTT
  obtain ⟨bA', oA', eA, -, -, DA, dA, hrgA, -, -, -⟩ := ha17.at_ (k := 0) (x := ⟨3, 0, headOf [], [120]⟩) rfl
  obtain ⟨rfl, rfl⟩ : bA = bA' ∧ oA = oA' := by simpa using eA
  obtain ⟨bB', oB', eB, -, -, DB, dB, hrgB, -, -, hrB⟩ := hbb17.at_ (k := 1) (x := ⟨3, 1, headOf laS, [121]⟩) rfl
  obtain ⟨rfl, rfl⟩ : bB = bB' ∧ oB = oB' := by simpa using eB
  have hrA := sub_prev hrgA (headOf_length [])
  have hrP := sub_prev hrgB (headOf_length laS)
  rw [show (⟨3, 0, headOf [], [120]⟩ : Lk).prev = S from HS.out.symm, Nat.zero_mul, Nat.add_zero] at hrA
  rw [show (⟨3, 1, headOf laS, [121]⟩ : Lk).prev = T1 from HT1.out.symm, Nat.one_mul] at hrP
  have HRA := Lib.hid hrA
  have HRP := Lib.hid hrP
  have k1 : ∀ i : Ext w17, i.W.cell? ⟨bB, oB + 35 + 1, none⟩ = some (.int .i64 1) := Ext.cell (hrgB 1 _ rfl)
  have k34 : ∀ i : Ext w17, i.W.cell? ⟨bB, oB + 35 + 34, none⟩ = some (.slice DB 1 dB) := Ext.cell (hrgB 34 _ (Lk.at_data ⟨3, 1, headOf laS, [121]⟩ _ (headOf_length laS)))
  have kst : ∀ i : Ext w17, (convert 39 9 (.slice DB 1 dB)).run Tryd.prog i.W = .ok (.string ⟨#[121]⟩) i.W := fun i => run_str (l := [121]) (Rd.below hrB i.below)
  have HDR : Hid (w17.rangeAt g 0 (dig S).toList) := Lib.hid fun j v hv => by
    rw [Nat.zero_add, hD17.cell]
    simpa using hv
  clear hHN hHA hTT hrA hrP hrgA hrgB hrB hrT hD17 ha17 hbb17 hbA eA eB
  go_wp2_with fail
  refine wp_region_quiet_ext (by kernel_rfl) (by kernel_rfl) ?_
  repeat (first
    | (go_big_quiet_want; refine quiet_load_dig _ rfl bA (oA + 2) rfl S hSl (Ext.range HRA.out) ?_; simp only [Act.put, List.setIfInBounds_toArray, List.set_cons_zero, List.set_cons_succ]; go_big_quiet_on)
    | (go_big_quiet_want; refine quiet_load_dig _ rfl g 0 rfl S hSl (Ext.range HDR.out) ?_; simp only [Act.put, List.setIfInBounds_toArray, List.set_cons_zero, List.set_cons_succ]; go_big_quiet_on)
    | (go_big_quiet_want; refine quiet_load_dig _ rfl bB (oB + 35 + 2) rfl T1 hT1l (Ext.range HRP.out) ?_; simp only [Act.put, List.setIfInBounds_toArray, List.set_cons_zero, List.set_cons_succ]; go_big_quiet_on)
    | (refine quiet_eql_dig (by rfl) _ _ _ rfl T1 T1 hT1l hT1l rfl rfl ?_; simp only [Act.put, List.setIfInBounds_toArray, List.set_cons_zero, List.set_cons_succ, decide_true])
    | (refine quiet_eql_dig (by rfl) _ _ _ rfl S S hSl hSl rfl rfl ?_; simp only [Act.put, List.setIfInBounds_toArray, List.set_cons_zero, List.set_cons_succ, decide_true])
    | go_big_quiet_step (first | (go_at_call 44; with_reducible exact Ext.call (HHN.out _)) | (go_at_call 44; with_reducible exact Ext.call (HHA.out _)) | (go_at_call 58; with_reducible exact Ext.call (HTT.out _))))
  refine wpQuiet_nil ?_
  rintro Wd ⟨⟨_, hWd⟩, rfl⟩
  have hBd := hB17.trans (hWd.mono hB17.size)
  clear k1 k34 kst hWd
  go_wp2
  go_ret
  exact ⟨rfl, hBd⟩
end Go.Proofs.YtibnikokgbfcdaaDoor

/- Walks: beacon.tagged, Make. -/
import Derived.Test.YtibnikokgbfcdaaDoorB1
import Derived.Test.YtibnikokgbfcdaaDoorR678
namespace Go.Proofs.YtibnikokgbfcdaaDoor
open Go Go.RowKit

set_option maxRecDepth 100000 in
set_option maxHeartbeats 2000000 in
theorem btagged_any (s : ByteArray) (hs : s.size ≤ 1000) (l : List Bt) (es : List (List UInt8)) (d : Nat) (A : Option Addr) (c m : Nat) (hm : m = l.length) (hes : l.length = es.length) (w : World) (hL : Laid w) (hR : Rd w w.heap.size A m (fun k => (l.getD k (.num 0)).iface)) (hn : m ≤ 1000) (hok : ∀ x ∈ l, x.ok)
    (hd : d + 1 ≤ 16) (hlen : (listB es).length ≤ 1000000) (h : ∀ (i : Nat) x e, l[i]? = some x → es[i]? = some e → Enc w x.v4 d e) :
    Calls Tryd.prog 88 #[.string s, .slice A m c] w (Ret (.agg (dig (tagged s.data.toList (listB es)))) w) := by
  have HB := Lib.hid (fun W (hb : Below w.heap.size w W) => blist_any l A c m hm W ((hR.below hb).more hb.size) hn hok)
  have HE := Lib.hid h
  have HL := Lib.hid hL
  have HM := Lib.hid hm
  have HLE := Lib.hid hlen
  have HES := Lib.hid hes
  clear hL hR hok h hm hlen hes
  go_enter Tryd.func88, Tryd.ntmps88
  go_wp2_with fail
  refine (HB.out _ ((Below.refl _ w).alloc (Nat.le_refl _) _)).mono ?_
  rintro e w1 ⟨A1, c1, rfl, hc1, hc1', hE1, hb1, -⟩
  have hB1 : Below w.heap.size w w1 := ((Below.refl _ w).alloc (Nat.le_refl _) _).trans (hb1.mono (by simp))
  have hD1 := (Blk.new w 23 _).below hb1 (by simp)
  clear hb1
  have hx : Enc w1 (V4.list A1 m c1) (d + 1) (listB es) := by
    have h4 := enc_list w1 A1 (l.map Bt.v4) es c1 d (by rw [List.length_map]; exact HES.out) hE1 (by rw [List.length_map, ← HM.out]; exact hc1) hc1' (by rw [List.length_map, ← HM.out]; omega) (by omega) fun i x e hx he => by
      rw [List.getElem?_map] at hx
      obtain ⟨y, hy, rfl⟩ := Option.map_eq_some_iff.1 hx
      exact (HE.out i y e hy he).later hB1
    rw [List.length_map, ← HM.out] at h4
    exact h4
  have hcall : Calls Tryd.prog 69 #[.agg #[.int .i64 3, .int .i64 0, .string ⟨#[]⟩, .slice A1 m c1]] w1 (EncPost (listB es) w1) := encode_ok (V4.list A1 m c1) (d + 1) (listB es) w1 hx hd (by have := HLE.out; omega)
  have HC := Lib.hid hcall
  clear hx hcall hE1
  go_wp2_with fail
  refine HC.out.mono ?_
  rintro e w2 ⟨v2, rfl, hown2, hb2⟩
  have hB2 := hB1.trans (hb2.mono hB1.size)
  have hD2 := hD1.below hb2 hD1.lt
  obtain ⟨T, hT⟩ : ∃ T, T = listB es := ⟨_, rfl⟩
  have hTl : T.length ≤ 1000000 := by rw [hT]; exact HLE.out
  rw [← hT] at hown2
  have HT := Lib.hid hT
  obtain ⟨A2, c2, rfl, -, -, -, hr2⟩ := own_shape hown2
  have HTG := Lib.hid (tagged_any s A2 T c2 w2 (HL.out.below hB2) hr2 (by omega) (by omega))
  clear hown2 hb2 hB1 hD1 hT hr2
  go_wp2_with fail
  refine HTG.out.mono ?_
  rintro e w3 ⟨rfl, hb3⟩
  have hB3 := hB2.trans (hb3.mono hB2.size)
  have hD3 := hD2.below hb3 hD2.lt
  obtain ⟨H, hH⟩ : ∃ H, H = tagged s.data.toList T := ⟨_, rfl⟩
  have hHl : H.length = 32 := by rw [hH]; exact tagged_length _ _
  rw [← hH]
  have HH := Lib.hid hH
  clear hH hb3 hB2 hD2
  go_wp2_with (refine store_dig rfl _ _ rfl hD3 H hHl rfl rfl rfl ?_; intro w8 hD8 hO8 hz8)
  refine bodyPost_ret (results_cell_row rfl _ _ w.heap.size 23 _ (0, 0) _ rfl hD8 Tryd.underlying23 rfl (dig_info _ hHl)) rfl ?_
  rw [← HT.out, ← HH.out]
  exact ⟨rfl, hB3.trans (hO8.toBelow hB3.size (Nat.le_refl _))⟩
end Go.Proofs.YtibnikokgbfcdaaDoor

/- Walks: podiumref08.Text, Head. -/
import Derived.Test.YtibnikokgbfcdaaDoorChP
import Derived.Test.YtibnikokgbfcdaaDoorExt
import Derived.BigGuardPart
namespace Go.Proofs.YtibnikokgbfcdaaDoor
open Go Go.RowKit

set_option maxRecDepth 100000 in
set_option maxHeartbeats 1000000 in
theorem r8number_any (k : Int) (w : World) : Calls Tryd.prog 114 #[.int .i64 k] w (Ret (.agg #[.int .i64 1, .int .i64 k, .string ⟨#[]⟩, .slice none 0 0]) w) := by
  go_enter Tryd.func114, Tryd.ntmps114
  go_wp2
  refine bodyPost_ret (results_cell_row rfl _ _ w.heap.size 93 _ (0, 0) _ rfl (Blk.new w 93 #[.int .i64 1, .int .i64 k, .string ⟨#[]⟩, .slice none 0 0]) Tryd.underlying93 rfl valueSize) rfl ?_
  exact ⟨rfl, (Below.refl _ w).alloc (Nat.le_refl _) _⟩
set_option maxRecDepth 100000 in
set_option maxHeartbeats 1000000 in
theorem r8text_any (A : Option Addr) (l : List UInt8) (n c : Nat) (hn : n = l.length) (w : World) (hR : RdB w w.heap.size A l) : Calls Tryd.prog 115 #[.slice A n c] w (Ret (.agg #[.int .i64 2, .int .i64 0, .string ⟨l.toArray⟩, .slice none 0 0]) w) := by
  have HN := Lib.hid hn
  have hR0 := hR.alloc (Nat.le_refl _) (.cells #[.int .i64 0, .int .i64 0, .string ⟨#[]⟩, .slice none 0 0] 93)
  clear hn
  go_enter Tryd.func115, Tryd.ntmps115
  go_wp2_with (refine to_str2 rfl _ rfl rfl HN.out hR0 ?_)
  refine bodyPost_ret (results_cell_row rfl _ _ w.heap.size 93 _ (0, 0) _ rfl (Blk.new w 93 #[.int .i64 2, .int .i64 0, .string ⟨l.toArray⟩, .slice none 0 0]) Tryd.underlying93 rfl valueSize) rfl ?_
  exact ⟨rfl, (Below.refl _ w).alloc (Nat.le_refl _) _⟩

theorem take_snoc8 (l : List UInt8) (k : Nat) (h : k < l.length) : l.take (k + 1) = l.take k ++ [l.getD k 0] := by
  rw [List.take_succ_eq_append_getElem h, List.getD_eq_getElem?_getD, List.getElem?_eq_getElem h]
  rfl
/-- What podiumref08.Text answers. -/
def TextPost (l : List Lk) (w : World) (e : Ending) (w' : World) : Prop :=
  ∃ A n c, e = .returned (.tuple #[.string ⟨(textOf l).1.toArray⟩, .slice A n c]) ∧ n = (textOf l).2.length ∧ n ≤ 66000 ∧ RdB w' w'.heap.size A (textOf l).2 ∧ Below w.heap.size w w'
def TRel (w : World) (g : Nat) (cs : Array Value) (pv : List UInt8) (u i : Value) (wr : World) : Prop :=
  ∃ k : Nat, k ≤ 32 ∧ i = .int .i64 k ∧ wr.ownsRow (g + 1) 5 1 u k (bcells (pv.take k)) ∧ Blk wr g 52 cs ∧ Below g w wr
set_option maxRecDepth 100000 in
set_option linter.unusedSimpArgs false in
set_option maxHeartbeats 8000000 in
theorem r8Text_any (A : Option Addr) (l : List Lk) (n c : Nat) (hn : n = l.length) (hn2 : n ≤ 1000000) (hf : ∀ x, l.getLast? = some x → x.fine) (w : World) (hR : LRd w w.heap.size A l) :
    Calls Tryd.prog 87 #[.slice A n c] w (TextPost l w) := by
  rcases Nat.eq_zero_or_pos n with h0 | h0
  · subst h0
    obtain rfl : l = [] := List.eq_nil_of_length_eq_zero hn.symm
    clear hn hf hR
    go_enter Tryd.func87, Tryd.ntmps87
    go_wp2
    go_ret2
    exact ⟨none, 0, 0, rfl, rfl, by omega, RdB.nil, Below.refl _ _⟩
  · obtain ⟨x, hx⟩ : ∃ x, l[n - 1]? = some x := ⟨_, List.getElem?_eq_getElem (by omega)⟩
    have hlast : l.getLast? = some x := by rw [List.getLast?_eq_getElem?, ← hn]; exact hx
    have hfx := hf x hlast
    obtain ⟨b, off, rfl, hbl, hpv, D, dc, hrg, hdc, hdc2, hrd⟩ := hR.at_ hx
    have HTO := Lib.hid (show textOf l = (linkTag, linkText x) by simp only [textOf, hlast])
    have HLEN := Lib.hid (linkText_len x hfx hpv)
    have HRG := Lib.hid hrg
    have HRD := Lib.hid hrd
    obtain ⟨f1, f2, f3, f4, f5⟩ := hfx
    have hidx : ((n : Int) - 1) = ((n - 1 : Nat) : Int) := by omega
    clear hf hR hlast hx hrg hrd hn
    obtain ⟨nd, no, pv, dat⟩ := x
    simp only at hpv f1 f2 f3 f4 f5 hdc
    obtain ⟨ndn, hndn⟩ : ∃ ndn : Nat, nd = ndn := ⟨nd.toNat, by omega⟩
    obtain ⟨non, hnon⟩ : ∃ non : Nat, no = non := ⟨no.toNat, by omega⟩
    obtain ⟨TX, hTX⟩ : ∃ TX, TX = linkText ⟨nd, no, pv, dat⟩ := ⟨_, rfl⟩
    have hTL : TX.length ≤ 66000 := by rw [hTX]; exact HLEN.out
    have HTX := Lib.hid (show TX = listB [intB ndn, intB non, textB pv, textB dat] by rw [hTX, hndn, hnon]; rfl)
    rw [← hTX] at HTO
    obtain ⟨dl, hdl⟩ : ∃ dl, dl = dat.length := ⟨_, rfl⟩
    have HDL := Lib.hid hdl
    have HND := Lib.hid hndn
    have HNO := Lib.hid hnon
    have hnb : ndn ≤ 1000000 := by omega
    have hob : non ≤ 1000000 := by omega
    clear hTX hndn hnon HLEN hdl
    go_enter Tryd.func87, Tryd.ntmps87
    go_wp2_with (first
      | (rw [hidx]; refine load_link rfl _ rfl ⟨nd, no, pv, dat⟩ (.slice D dat.length dc) hpv rfl HRG.out ?_)
      | (refine load_link rfl _ rfl ⟨nd, no, pv, dat⟩ (.slice D dat.length dc) hpv rfl HRG.out ?_)
      | (refine store_link rfl _ _ rfl (Blk.new w 52 _) ⟨nd, no, pv, dat⟩ D dat.length dc hpv rfl rfl rfl ?_; intro W1 hX hO1 hz1
         have hB1 : Below w.heap.size w W1 := ((Below.refl _ w).alloc (Nat.le_refl _) _).trans (hO1.toBelow (by simp) (Nat.le_refl _))))
    obtain ⟨g, hg⟩ : ∃ g, g = w.heap.size := ⟨_, rfl⟩
    rw [← hg] at hX hB1 ⊢
    have hgz : g + 1 ≤ W1.heap.size := hX.lt
    rw [← HDL.out] at hX
    have HG := Lib.hid hg
    clear hO1 hz1 hg
    go_loopw [5, 6] (fun u i wr => TRel w g (Lk.cells ⟨nd, no, pv, dat⟩ (.slice D dl dc)).toArray pv u i wr) (fun _ i _ => 32 - (intOf i).toNat)
    case atStart => exact ⟨0, by omega, rfl, World.ownsRow_nil _ _ _ _, hX, hB1⟩
    case round =>
      clear hX hB1 hgz
      obtain ⟨k, hk, rfl, hown, hX, hB⟩ := hrel
      have hgz : g + 1 ≤ wr.heap.size := hX.lt
      have HOWN := Lib.hid hown
      by_cases hlt : k < 32
      · have hc : wr.cell? ⟨g, 2 + k, none⟩ = some (.int .u8 (byteAt pv k)) := by
          rw [hX.cell (2 + k), List.getElem?_toArray, Lk.at_prev ⟨nd, no, pv, dat⟩ _ hpv k hlt]
          exact dig_get pv k (by omega)
        have HX := Lib.hid hX
        have HB := Lib.hid hB
        clear hX hB
        go_wp2_with (at_builtin; refine app_byte rfl _ _ rfl (g + 1) wr u5 k (bcells (pv.take k)) rfl HOWN.out (pv.getD k 0) _ rfl _ rfl (by omega) hgz ?_; intro v2 w2 hown2 hg2)
        have hne : some g ≠ u5.ownBlock := fun e => by have := (World.ownsRow.lt HOWN.out _ e.symm).1; omega
        have hX2 := HX.out.grown hg2.1 hne
        have hB2 := HB.out.trans (hg2.below (by omega) fun q hq => by have := (World.ownsRow.lt HOWN.out _ hq).1; omega)
        have hO2 : w2.ownsRow (g + 1) 5 1 v2 (k + 1) (bcells (pv.take (k + 1))) := by
          rw [take_snoc8 pv k (by omega), bcells_append]
          exact hown2
        clear hown2 hg2
        go_roundw
        case rel => exact ⟨k + 1, by omega, by go_num, hO2, hX2, hB2⟩
        case measure => simp [intOf]; omega
      · obtain rfl : k = 32 := by omega
        rw [List.take_of_length_le (by omega)] at HOWN
        obtain ⟨-, A6, c6, rfl, -, -, hr6⟩ := own_slice HOWN.out
        have hl6 : pv.length = 32 := hpv
        have hgl : g < wr.heap.size := hX.lt
        have k0 : wr.cell? ⟨g, 0, none⟩ = some (.int .i64 nd) := hX.cell 0
        have k1 : wr.cell? ⟨g, 1, none⟩ = some (.int .i64 no) := hX.cell 1
        have k34 : wr.cell? ⟨g, 34, none⟩ = some (.slice D dl dc) := by
          rw [hX.cell 34, List.getElem?_toArray]
          exact Lk.at_data ⟨nd, no, pv, dat⟩ _ hpv
        have hRd : RdB wr wr.heap.size D dat := (HRD.out.below (by rw [← HG.out]; exact hB)).more hB.size
        obtain ⟨pl, hpl⟩ : ∃ pl, pl = pv.length := ⟨_, rfl⟩
        rw [← hpl] at hpv ⊢
        have HPL := Lib.hid hpl
        have hB9 : Below g w wr := hB
        have HB := Lib.hid hB9
        clear hX hB hB9 hl6 hpl
        subst hpv
        go_wp2_with fail
        refine wp_region_held_drew (S := fun W' => Below wr.heap.size wr W') (by kernel_rfl) (Below.refl _ _).drew (fun hS => ?_)
        refine wpAnyH_take (i := 0) (v := .pointer (some ⟨g, 0, none⟩)) rfl (by kernel_rfl) (by kernel_rfl) (by kernel_rfl) (fun _ _ _ h => h) (Or.inl ⟨by rfl, fun W' hS' => by go_simp⟩) hS ?_
        simp only [Act.put, List.getElem_toArray, List.getElem_cons_zero, List.getElem_cons_succ, List.setIfInBounds_toArray, List.set_cons_zero, List.set_cons_succ]
        refine wpAnyH_take (i := 1) (v := .int .i64 nd) rfl (by kernel_rfl) (by kernel_rfl) (by kernel_rfl) (fun _ _ _ h => h) (Or.inl ⟨by rfl, fun W' hS' => by have := (hS'.cell (p := ⟨g, 0, none⟩) hgl).trans k0; go_simp⟩) hS ?_
        simp only [Act.put, List.getElem_toArray, List.getElem_cons_zero, List.getElem_cons_succ, List.setIfInBounds_toArray, List.set_cons_zero, List.set_cons_succ]
        refine wpAnyH_take (i := 3) (v := .pointer (some ⟨g, 1, none⟩)) rfl (by kernel_rfl) (by kernel_rfl) (by kernel_rfl) (fun _ _ _ h => h) (Or.inl ⟨by rfl, fun W' hS' => by go_simp⟩) hS ?_
        simp only [Act.put, List.getElem_toArray, List.getElem_cons_zero, List.getElem_cons_succ, List.setIfInBounds_toArray, List.set_cons_zero, List.set_cons_succ]
        refine wpAnyH_take (i := 4) (v := .int .i64 no) rfl (by kernel_rfl) (by kernel_rfl) (by kernel_rfl) (fun _ _ _ h => h) (Or.inl ⟨by rfl, fun W' hS' => by have := (hS'.cell (p := ⟨g, 1, none⟩) hgl).trans k1; go_simp⟩) hS ?_
        simp only [Act.put, List.getElem_toArray, List.getElem_cons_zero, List.getElem_cons_succ, List.setIfInBounds_toArray, List.set_cons_zero, List.set_cons_succ]
        refine wpAnyH_take (i := 6) (v := .slice A6 32 c6) rfl (by kernel_rfl) (by kernel_rfl) (by kernel_rfl) (fun _ _ _ h => h) (Or.inl ⟨by rfl, fun W' hS' => by go_simp⟩) hS ?_
        simp only [Act.put, List.getElem_toArray, List.getElem_cons_zero, List.getElem_cons_succ, List.setIfInBounds_toArray, List.set_cons_zero, List.set_cons_succ]
        refine wpAnyH_take (i := 8) (v := .pointer (some ⟨g, 34, none⟩)) rfl (by kernel_rfl) (by kernel_rfl) (by kernel_rfl) (fun _ _ _ h => h) (Or.inl ⟨by rfl, fun W' hS' => by go_simp⟩) hS ?_
        simp only [Act.put, List.getElem_toArray, List.getElem_cons_zero, List.getElem_cons_succ, List.setIfInBounds_toArray, List.set_cons_zero, List.set_cons_succ]
        refine wpAnyH_take (i := 9) (v := .slice D dl dc) rfl (by kernel_rfl) (by kernel_rfl) (by kernel_rfl) (fun _ _ _ h => h) (Or.inl ⟨by rfl, fun W' hS' => by have := (hS'.cell (p := ⟨g, 34, none⟩) hgl).trans k34; go_simp⟩) hS ?_
        simp only [Act.put, List.getElem_toArray, List.getElem_cons_zero, List.getElem_cons_succ, List.setIfInBounds_toArray, List.set_cons_zero, List.set_cons_succ]
        refine wpAnyH_ready (rs := [2]) (by kernel_rfl) (by simp) ?_
        refine AllReadyH.cons rfl (fun Kq hKq => ?_) AllReadyH.nil
        simp only [List.getElem_toArray, List.getElem_cons_zero, List.getElem_cons_succ]
        go_simp
        refine (r8number_any nd _).mono ?_
        rintro e Wa ⟨rfl, hba⟩
        have hSa := hS.trans (hba.mono hS.size)
        refine hKq.out _ _ hSa (fun _ => ?_)
        clear hKq Kq hba hS
        refine wpAnyH_ready (rs := [5]) (by kernel_rfl) (by simp) ?_
        refine AllReadyH.cons rfl (fun Kq hKq => ?_) AllReadyH.nil
        simp only [List.getElem_toArray, List.getElem_cons_zero, List.getElem_cons_succ]
        go_simp
        refine (r8number_any no _).mono ?_
        rintro e Wb ⟨rfl, hbb⟩
        have hSb := hSa.trans (hbb.mono hSa.size)
        refine hKq.out _ _ hSb (fun _ => ?_)
        clear hKq Kq hbb hSa
        refine wpAnyH_ready (rs := [7]) (by kernel_rfl) (by simp) ?_
        refine AllReadyH.cons rfl (fun Kq hKq => ?_) AllReadyH.nil
        simp only [List.getElem_toArray, List.getElem_cons_zero, List.getElem_cons_succ]
        go_simp
        refine (r8text_any A6 pv 32 c6 HPL.out _ ((Rd.below hr6 hSb).more hSb.size)).mono ?_
        rintro e Wc ⟨rfl, hbc⟩
        have hSc := hSb.trans (hbc.mono hSb.size)
        refine hKq.out _ _ hSc (fun _ => ?_)
        clear hKq Kq hbc hSb
        refine wpAnyH_ready (rs := [10]) (by kernel_rfl) (by simp) ?_
        refine AllReadyH.cons rfl (fun Kq hKq => ?_) AllReadyH.nil
        simp only [List.getElem_toArray, List.getElem_cons_zero, List.getElem_cons_succ]
        go_simp
        refine (r8text_any D dat dl dc HDL.out _ ((Rd.below hRd hSc).more hSc.size)).mono ?_
        rintro e Wd ⟨rfl, hbd⟩
        have hSd := hSc.trans (hbd.mono hSc.size)
        refine hKq.out _ _ hSd (fun _ => ?_)
        clear hKq Kq hbd hSc
        refine wpAnyH_ready (rs := [11]) (by kernel_rfl) (by simp) ?_
        refine AllReadyH.cons rfl (fun Kq hKq => ?_) AllReadyH.nil
        simp only [List.getElem_toArray, List.getElem_cons_zero, List.getElem_cons_succ]
        go_simp
        have hE0 : Elems (Wd.alloc (.cells #[.int .i64 1, .int .i64 nd, .string ⟨#[]⟩, .slice none 0 0, .int .i64 1, .int .i64 no, .string ⟨#[]⟩, .slice none 0 0, .int .i64 2, .int .i64 0, .string ⟨pv.toArray⟩, .slice none 0 0, .int .i64 2, .int .i64 0, .string ⟨dat.toArray⟩, .slice none 0 0] 93)) (Wd.alloc (.cells #[.int .i64 1, .int .i64 nd, .string ⟨#[]⟩, .slice none 0 0, .int .i64 1, .int .i64 no, .string ⟨#[]⟩, .slice none 0 0, .int .i64 2, .int .i64 0, .string ⟨pv.toArray⟩, .slice none 0 0, .int .i64 2, .int .i64 0, .string ⟨dat.toArray⟩, .slice none 0 0] 93)).heap.size (some ⟨Wd.heap.size, 0, none⟩) [⟨1, .int .i64 nd, .string ⟨#[]⟩, .slice none 0 0⟩, ⟨1, .int .i64 no, .string ⟨#[]⟩, .slice none 0 0⟩, V4.text ⟨pv.toArray⟩, V4.text ⟨dat.toArray⟩] := elems_of_blk _ (Blk.new Wd 93 _)
        have hSe := hSd.alloc hSd.size (.cells #[.int .i64 1, .int .i64 nd, .string ⟨#[]⟩, .slice none 0 0, .int .i64 1, .int .i64 no, .string ⟨#[]⟩, .slice none 0 0, .int .i64 2, .int .i64 0, .string ⟨pv.toArray⟩, .slice none 0 0, .int .i64 2, .int .i64 0, .string ⟨dat.toArray⟩, .slice none 0 0] 93)
        refine hKq.out _ _ hSe (fun _ => ?_)
        clear hKq Kq hSd
        obtain ⟨ge, hge⟩ : ∃ ge, ge = Wd.heap.size := ⟨_, rfl⟩
        rw [← hge] at hE0 ⊢
        generalize Wd.alloc (.cells #[.int .i64 1, .int .i64 nd, .string ⟨#[]⟩, .slice none 0 0, .int .i64 1, .int .i64 no, .string ⟨#[]⟩, .slice none 0 0, .int .i64 2, .int .i64 0, .string ⟨pv.toArray⟩, .slice none 0 0, .int .i64 2, .int .i64 0, .string ⟨dat.toArray⟩, .slice none 0 0] 93) = We at hE0 hSe ⊢
        clear hge
        refine wpAnyH_take (i := 12) (v := .agg #[.int .i64 3, .int .i64 0, .string ⟨#[]⟩, .slice (some ⟨ge, 0, none⟩) 4 4]) rfl (by kernel_rfl) (by kernel_rfl) (by kernel_rfl) (fun _ _ _ h => h) (Or.inl ⟨by rfl, fun W' hS' => by go_simp⟩) hSe ?_
        simp only [Act.put, List.getElem_toArray, List.getElem_cons_zero, List.getElem_cons_succ, List.setIfInBounds_toArray, List.set_cons_zero, List.set_cons_succ]
        have hx : REnc We (V4.list (some ⟨ge, 0, none⟩) 4 4) (0 + 1) TX := by
          rw [HTX.out]
          refine renc_list We (some ⟨ge, 0, none⟩) _ [intB ndn, intB non, textB pv, textB dat] 4 0 rfl hE0 (by simp) (by omega) (by have := HTX.out; rw [← this]; omega) (by omega) fun k x e h1 h2 => ?_
          rcases k with _ | _ | _ | _ | k
          · obtain rfl := Option.some.inj h1
            obtain rfl := Option.some.inj h2
            rw [HND.out]
            exact renc_int We ndn (by omega)
          · obtain rfl := Option.some.inj h1
            obtain rfl := Option.some.inj h2
            rw [HNO.out]
            exact renc_int We non (by omega)
          · obtain rfl := Option.some.inj h1
            obtain rfl := Option.some.inj h2
            exact renc_text We ⟨pv.toArray⟩ (by show pv.toArray.size ≤ _; have := HPL.out; simp; omega)
          · obtain rfl := Option.some.inj h1
            obtain rfl := Option.some.inj h2
            exact renc_text We ⟨dat.toArray⟩ (by show dat.toArray.size ≤ _; simp; omega)
          · cases h1
        have hcall : Calls Tryd.prog 72 #[.agg #[.int .i64 3, .int .i64 0, .string ⟨#[]⟩, .slice (some ⟨ge, 0, none⟩) 4 4]] We (EncPost TX We) := rEncode_ok (V4.list (some ⟨ge, 0, none⟩) 4 4) (0 + 1) TX We hx (by omega)
        have HC := Lib.hid hcall
        clear hx hcall hE0
        refine wpAnyH_ready (rs := [13]) (by kernel_rfl) (by simp) ?_
        refine AllReadyH.cons rfl (fun Kq hKq => ?_) AllReadyH.nil
        simp only [List.getElem_toArray, List.getElem_cons_zero, List.getElem_cons_succ]
        go_simp
        refine HC.out.mono ?_
        rintro e Wg ⟨v6, rfl, hown6, hb6⟩
        have hSg := hSe.trans (hb6.mono hSe.size)
        obtain ⟨-, A7, c7, rfl, -, -, hr7⟩ := own_slice hown6
        refine hKq.out _ _ hSg (fun _ => ?_)
        clear hKq Kq hb6 hSe hown6
        refine wpAnyH_take (i := 14) (v := .tuple #[.slice A7 TX.length c7, .int .i64 0]) rfl (by kernel_rfl) (by kernel_rfl) (by kernel_rfl) (fun _ _ _ h => h) (Or.inl ⟨by rfl, fun W' hS' => by go_simp⟩) hSg ?_
        simp only [Act.put, List.getElem_toArray, List.getElem_cons_zero, List.getElem_cons_succ, List.setIfInBounds_toArray, List.set_cons_zero, List.set_cons_succ]
        refine wpAnyH_take (i := 15) (v := .slice A7 TX.length c7) rfl (by kernel_rfl) (by kernel_rfl) (by kernel_rfl) (fun _ _ _ h => h) (Or.inl ⟨by rfl, fun W' hS' => by go_simp⟩) hSg ?_
        simp only [Act.put, List.getElem_toArray, List.getElem_cons_zero, List.getElem_cons_succ, List.setIfInBounds_toArray, List.set_cons_zero, List.set_cons_succ]
        refine wpAnyH_take (i := 16) (v := .int .i64 0) rfl (by kernel_rfl) (by kernel_rfl) (by kernel_rfl) (fun _ _ _ h => h) (Or.inl ⟨by rfl, fun W' hS' => by go_simp⟩) hSg ?_
        simp only [Act.put, List.getElem_toArray, List.getElem_cons_zero, List.getElem_cons_succ, List.setIfInBounds_toArray, List.set_cons_zero, List.set_cons_succ]
        refine wpAnyH_take (i := 17) (v := .slice A7 TX.length c7) rfl (by kernel_rfl) (by kernel_rfl) (by kernel_rfl) (fun _ _ _ h => h) (Or.inl ⟨by rfl, fun W' hS' => by go_simp⟩) hSg ?_
        simp only [Act.put, List.getElem_toArray, List.getElem_cons_zero, List.getElem_cons_succ, List.setIfInBounds_toArray, List.set_cons_zero, List.set_cons_succ]
        refine wpAnyH_take (i := 18) (v := .int .i64 0) rfl (by kernel_rfl) (by kernel_rfl) (by kernel_rfl) (fun _ _ _ h => h) (Or.inl ⟨by rfl, fun W' hS' => by go_simp⟩) hSg ?_
        simp only [Act.put, List.getElem_toArray, List.getElem_cons_zero, List.getElem_cons_succ, List.setIfInBounds_toArray, List.set_cons_zero, List.set_cons_succ]
        refine wpAnyH_done (by kernel_rfl) ?_ _
        have hB7 : Below g w Wg := HB.out.trans (hSg.mono (Nat.le_of_lt hgl))
        clear hSg hr6 hRd k0 k1 k34
        go_wp2
        go_ret2
        refine ⟨A7, TX.length, c7, by rw [HTO.out]; rfl, by rw [HTO.out], hTL, by rw [HTO.out]; exact hr7, by rw [← HG.out]; exact hB7⟩
end Go.Proofs.YtibnikokgbfcdaaDoor

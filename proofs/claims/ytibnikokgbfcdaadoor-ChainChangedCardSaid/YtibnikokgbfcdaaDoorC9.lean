/- Walk: chain.Add. -/
import Derived.Test.YtibnikokgbfcdaaDoorLkB
import Derived.BigGuardPart
namespace Go.Proofs.YtibnikokgbfcdaaDoor
open Go Go.RowKit

theorem slice3_links (W : World) (A : Option Addr) (n c : Nat) (h : n ≤ c) : (Instr.slice 43 (.slice A n c) none (some (.int .i64 (n : Int))) (some (.int .i64 (n : Int)))).run Tryd.prog W = .ok (.slice A n n) W := by
  have e : ∀ a : Addr, a.add 0 = a := fun a => rfl
  cases A <;> simp [Instr.slice, run_underlying Tryd.underlying43, Instr.sliceBounds, Instr.sliceBound, asIntOf, h, e]
/-- What chain.Add answers. -/
noncomputable def addErr (l : List Lk) (node : Int) (dl : Nat) : Int :=
  if chkOf l ≠ 0 then chkOf l else if node < 0 ∨ 24 ≤ node ∨ (0 < l.length ∧ (l.getD 0 lk0).node ≠ node) ∨ 65536 < dl then 1 else if l.length = 1024 then 2 else 0
def AddPost (l : List Lk) (node : Int) (d : List UInt8) (w : World) (e : Ending) (w' : World) : Prop :=
  (addErr l node d.length = 0 ∧ ∃ (B : Option Addr) (c : Nat), e = .returned (.tuple #[.slice B (l.length + 1) c, .int .i64 0]) ∧ l.length + 1 ≤ c ∧ c ≤ 9223372036854775807 ∧ LRd w' w'.heap.size B (addL l node d) ∧ Below w.heap.size w w') ∨
  (addErr l node d.length ≠ 0 ∧ e = .returned (.tuple #[.slice none 0 0, .int .i64 (addErr l node d.length)]) ∧ Below w.heap.size w w')
theorem AddPost.bad {l : List Lk} {node : Int} {d : List UInt8} {w w' : World} {e : Ending} {E : Int} (h : addErr l node d.length = E) (hE : E ≠ 0) (he : e = .returned (.tuple #[.slice none 0 0, .int .i64 E])) (hb : Below w.heap.size w w') : AddPost l node d w e w' := by
  exact .inr ⟨by rw [h]; exact hE, by rw [h]; exact he, hb⟩
theorem chkOf_zero {l : List Lk} (h : chkOf l = 0) : l.length ≤ 1024 ∧ chkOk l := by
  unfold chkOf at h
  split at h
  · cases h
  · split at h
    · exact ⟨by omega, ‹_›⟩
    · cases h
theorem chkOf_ok {l : List Lk} (h : chkOk l) (hl : l.length ≤ 1024) : chkOf l = 0 := by rw [chkOf, if_neg (by omega), if_pos h]
theorem chk_fine {l : List Lk} (h : chkOk l) (hl : l.length ≤ 1024) : ∀ x, l.getLast? = some x → x.fine := by
  intro x hx
  have h0 : 0 < l.length := by
    rcases Nat.eq_zero_or_pos l.length with e | e
    · rw [List.eq_nil_of_length_eq_zero e] at hx; cases hx
    · exact e
  rw [List.getLast?_eq_getElem?] at hx
  have hg : l.getD (l.length - 1) lk0 = x := by rw [List.getD_eq_getElem?_getD, hx]; rfl
  obtain ⟨h1, h2, h3, h4, h5, h6⟩ := h (l.length - 1) (by omega)
  rw [hg] at h2 h3 h4 h5
  exact ⟨h2, by omega, by omega, by omega, h5⟩
set_option maxRecDepth 100000 in
set_option linter.unusedSimpArgs false in
set_option linter.unusedVariables false in
set_option maxHeartbeats 8000000 in
theorem add_any (A D : Option Addr) (l : List Lk) (node : Int) (d : List UInt8) (n c dn dc : Nat) (hn : n = l.length) (hnc : n ≤ c) (hcc : c ≤ 9223372036854775807) (hdn : dn = d.length) (hdl : dn ≤ 9223372036854775807) (hDn : D = none → dn = 0 ∧ dc = 0) (w : World) (hL : Laid w) (hA : LRd w w.heap.size A l) (hD : RdB w w.heap.size D d)
    (hd : ∀ y, y < l.length → (l.getD y lk0).data.length ≤ 4611686018427387903) :
    Calls Tryd.prog 39 #[.slice A n c, .int .i64 node, .slice D dn dc] w (AddPost l node d w) := by
  have HC := Lib.hid (check_any A l n c hn (by omega) hnc w hL hA hd)
  have HL := Lib.hid hL
  have HA := Lib.hid hA
  have HD := Lib.hid hD
  have HN := Lib.hid hn
  have HDN := Lib.hid hdn
  have HDNN := Lib.hid hDn
  have hAn : A = none → n = 0 ∧ n = 0 := fun e => by
    rcases Nat.eq_zero_or_pos n with h | h
    · exact ⟨h, h⟩
    · obtain ⟨b, off, e2, -⟩ := hA (by omega)
      rw [e] at e2
      cases e2
  have HAN := Lib.hid hAn
  clear hL hA hD hd hn hdn hDn hAn
  have sk : True := trivial
  by_cases t1 : chkOf l = 0
  rotate_left
  · have HB := Lib.hid (fun (w' : World) (hb : Below w.heap.size w w') => AddPost.bad (l := l) (node := node) (d := d) (E := chkOf l) (by rw [addErr, if_pos t1]) t1 rfl hb)
    obtain ⟨e1, he1⟩ : ∃ e1, e1 = chkOf l := ⟨_, rfl⟩
    rw [← he1] at HB t1 HC
    clear he1
    go_enter Tryd.func39, Tryd.ntmps39
    go_wp2_with fail
    refine HC.out.mono ?_
    rintro e w1 ⟨rfl, hb1⟩
    go_wp2
    go_ret2
    exact HB.out _ hb1
  · have HERR := Lib.hid (show addErr l node d.length = if node < 0 ∨ 24 ≤ node ∨ (0 < l.length ∧ (l.getD 0 lk0).node ≠ node) ∨ 65536 < d.length then 1 else if l.length = 1024 then 2 else 0 by rw [addErr, if_neg (fun h => h t1)])
    have HCH := Lib.hid (chkOf_zero t1)
    rw [t1] at HC
    clear t1
    by_cases c1 : node < 0
    · have HB := Lib.hid (fun (w' : World) (hb : Below w.heap.size w w') => AddPost.bad (l := l) (node := node) (d := d) (E := 1) (by rw [HERR.out, if_pos (.inl c1)]) (by decide) rfl hb)
      clear HERR HCH
      go_enter Tryd.func39, Tryd.ntmps39
      go_wp2_with fail
      refine HC.out.mono ?_
      rintro e w1 ⟨rfl, hb1⟩
      go_wp2_with (refine wpList_skip (by rfl) ?_)
      go_ret2
      exact HB.out _ hb1
    have c1' : decide (node < 0) = false := decide_eq_false c1
    by_cases c2 : 24 ≤ node
    · have HB := Lib.hid (fun (w' : World) (hb : Below w.heap.size w w') => AddPost.bad (l := l) (node := node) (d := d) (E := 1) (by rw [HERR.out, if_pos (.inr (.inl c2))]) (by decide) rfl hb)
      clear HERR HCH
      go_enter Tryd.func39, Tryd.ntmps39
      go_wp2_with fail
      refine HC.out.mono ?_
      rintro e w1 ⟨rfl, hb1⟩
      go_wp2_with (refine wpList_skip (by rfl) ?_)
      go_ret2
      exact HB.out _ hb1
    have c2' : decide (24 ≤ node) = false := decide_eq_false c2
    by_cases h0 : 0 < n
    · have g0 : decide ((0 : Int) < (n : Int)) = true := decide_eq_true (by omega)
      obtain ⟨x, hx⟩ : ∃ x, l[0]? = some x := ⟨_, List.getElem?_eq_getElem (by rw [← HN.out]; exact h0)⟩
      obtain ⟨b, off, rfl, hbw, -, E, ec, hrg, -, -, -⟩ := HA.out.at_ hx
      have k1 : w.cell? ⟨b, off, none⟩ = some (.int .i64 x.node) := by have h := hrg 0 _ rfl; rw [Nat.zero_mul] at h; exact h
      have HX := Lib.hid (show (l.getD 0 lk0).node = x.node by rw [List.getD_eq_getElem?_getD, hx]; rfl)
      obtain ⟨xn, hxn⟩ : ∃ z, z = x.node := ⟨_, rfl⟩
      rw [← hxn] at k1 HX
      have K1 := Lib.hid k1
      clear hrg hx hxn k1
      by_cases hq : node = xn
      · subst hq
        have hne : ¬ (0 < l.length ∧ (l.getD 0 lk0).node ≠ node) := fun h => h.2 HX.out
        have HNE := Lib.hid hne
        have b0 : (node != node) = false := by simp
        clear hne
        by_cases c3 : 65536 < dn
        · have HB := Lib.hid (fun (w' : World) (hb : Below w.heap.size w w') => AddPost.bad (l := l) (node := node) (d := d) (E := 1) (by rw [HERR.out, if_pos (.inr (.inr (.inr (by rw [← HDN.out]; exact c3))))]) (by decide) rfl hb)
          clear HERR HCH HNE
          go_enter Tryd.func39, Tryd.ntmps39
          go_wp2_with fail
          refine HC.out.mono ?_
          rintro e w1 ⟨rfl, hb1⟩
          have k2 : w1.cell? ⟨b, off, none⟩ = some (.int .i64 node) := (hb1.cell (p := ⟨b, off, none⟩) hbw).trans K1.out
          go_wp2_with (refine wpList_skip (by rfl) ?_)
          go_ret2
          exact HB.out _ hb1
        have c3' : decide ((65536 : Int) < (dn : Int)) = false := decide_eq_false (by omega)
        by_cases c4 : n = 1024
        · have HB := Lib.hid (fun (w' : World) (hb : Below w.heap.size w w') => AddPost.bad (l := l) (node := node) (d := d) (E := 2) (by rw [HERR.out, if_neg (by rintro (h | h | h | h) <;> first | exact HNE.out h | (have := HDN.out; omega)), if_pos (by rw [← HN.out]; exact c4)]) (by decide) rfl hb)
          clear HERR HCH HNE
          subst c4
          go_enter Tryd.func39, Tryd.ntmps39
          go_wp2_with fail
          refine HC.out.mono ?_
          rintro e w1 ⟨rfl, hb1⟩
          have k2 : w1.cell? ⟨b, off, none⟩ = some (.int .i64 node) := (hb1.cell (p := ⟨b, off, none⟩) hbw).trans K1.out
          go_wp2_with (refine wpList_skip (by rfl) ?_)
          go_ret2
          exact HB.out _ hb1
        · have HERR2 := Lib.hid (show addErr l node d.length = 0 by rw [HERR.out, if_neg (by rintro (h | h | h | h) <;> first | exact HNE.out h | (have := HDN.out; omega)), if_neg (by rw [← HN.out]; exact c4)])
          have c4' : ((n : Int) == 1024) = false := by simpa using (show ¬ (n : Int) = 1024 by omega)
          clear HERR HNE
          go_enter Tryd.func39, Tryd.ntmps39
          go_wp2_with fail
          refine HC.out.mono ?_
          rintro e w1 ⟨rfl, hb1⟩
          have k2 : w1.cell? ⟨b, off, none⟩ = some (.int .i64 node) := (hb1.cell (p := ⟨b, off, none⟩) hbw).trans K1.out
          go_wp2_with (refine wpList_skip (by rfl) ?_)
          have hH : Calls Tryd.prog 44 #[.slice (some ⟨b, off, none⟩) n c] w1 (Ret (.agg (dig (headOf l))) w1) := head_any (some ⟨b, off, none⟩) l n c HN.out (by have := HCH.out.1; have := HN.out; omega) (chk_fine HCH.out.2 HCH.out.1) w1 (HL.out.below hb1) (HA.out.later hb1)
          refine hH.mono ?_
          rintro e w2 ⟨rfl, hb2⟩
          have hB2 := hb1.trans (hb2.mono hb1.size)
          obtain ⟨H, hHd⟩ : ∃ H, H = headOf l := ⟨_, rfl⟩
          have hHl : H.length = 32 := by rw [hHd]; exact headOf_length _
          rw [← hHd]
          have HH := Lib.hid hHd
          clear hb1 hb2 hH hHd
          go_wp2_with fail
          refine (bClone_any D d dn dc HDN.out (by omega) w2 ((HD.out.below hB2).more hB2.size) HDNN.out).mono ?_
          rintro e w3 ⟨v3, rfl, hown3, hb3⟩
          have hB3 := hB2.trans (hb3.mono hB2.size)
          obtain ⟨D3, c3, rfl, -, hc3, hc3', hr3⟩ := own_shape hown3
          clear hown3 hb3 hB2
          obtain ⟨XL, hXL⟩ : ∃ XL : Lk, XL = ⟨node, (n : Nat), H, d⟩ := ⟨_, rfl⟩
          have hXp : XL.prev.length = 32 := by rw [hXL]; exact hHl
          have hx0 : XL.node = node := by rw [hXL]
          have hx1 : XL.no = (n : Nat) := by rw [hXL]
          have hx2 : XL.prev = H := by rw [hXL]
          have HX0 := Lib.hid hx0
          have HX1 := Lib.hid hx1
          have HX2 := Lib.hid hx2
          clear hx0 hx1 hx2
          have HXL := Lib.hid hXL
          have HC3 := Lib.hid hc3
          clear hXL hHl hc3
          obtain ⟨dl, hdl⟩ : ∃ dl, dl = d.length := ⟨_, rfl⟩
          rw [← hdl] at HC3
          try rw [← hdl]
          have HDL := Lib.hid hdl
          clear hdl
          go_wp2_with (first | (refine build_link rfl _ _ _ _ rfl XL D3 dl c3 hXp (by rw [HX0.out]; rfl) (by rw [HX1.out]; rfl) (by rw [HX2.out]; rfl) rfl ?_) | (refine store_link_new rfl _ _ rfl w3 _ _ XL D3 dl c3 hXp rfl rfl rfl ?_))
          have hX4 : Blk (w3.alloc (.cells (XL.cells (.slice D3 dl c3)).toArray 52)) w3.heap.size 52 (XL.cells (.slice D3 dl c3)).toArray := Blk.new _ _ _
          have hB4 : Below w.heap.size w (w3.alloc (.cells (XL.cells (.slice D3 dl c3)).toArray 52)) := hB3.alloc hB3.size _
          have hr4 := (hr3.alloc (Nat.le_refl _) (.cells (XL.cells (.slice D3 dl c3)).toArray 52))
          generalize (w3.alloc (.cells (XL.cells (.slice D3 dl c3)).toArray 52)) = w4 at hX4 hB4 hr4 ⊢
          obtain ⟨g, hg⟩ : ∃ g, g = w3.heap.size := ⟨_, rfl⟩
          rw [← hg] at hX4 ⊢
          have hr5 := Rd.more hr4 (show w3.heap.size ≤ w4.heap.size by rw [← hg]; exact Nat.le_of_lt hX4.lt)
          clear hg hr3 hr4 hB3 k2
          go_wp2_with fail
          refine wp_region_held_drew (S := fun W' => Below w4.heap.size w4 W') (by kernel_rfl) (Below.refl _ _).drew (fun hS => ?_)
          refine wpAnyH_take (i := 0) (v := .slice (some ⟨b, off, none⟩) n c) rfl (by kernel_rfl) (by kernel_rfl) (by kernel_rfl) (fun _ _ _ h => h) (Or.inl ⟨by rfl, fun W' hS' => by go_simp⟩) hS ?_
          simp only [Act.put, List.getElem_toArray, List.getElem_cons_zero, List.getElem_cons_succ, List.setIfInBounds_toArray, List.set_cons_zero, List.set_cons_succ]
          refine wpAnyH_take (i := 1) (v := .slice (some ⟨b, off, none⟩) n c) rfl (by kernel_rfl) (by kernel_rfl) (by kernel_rfl) (fun _ _ _ h => h) (Or.inl ⟨by rfl, fun W' hS' => by go_simp⟩) hS ?_
          simp only [Act.put, List.getElem_toArray, List.getElem_cons_zero, List.getElem_cons_succ, List.setIfInBounds_toArray, List.set_cons_zero, List.set_cons_succ]
          refine wpAnyH_take (i := 2) (v := .int .i64 n) rfl (by kernel_rfl) (by kernel_rfl) (by kernel_rfl) (fun _ _ _ h => h) (Or.inl ⟨by rfl, fun W' hS' => by go_simp⟩) hS ?_
          simp only [Act.put, List.getElem_toArray, List.getElem_cons_zero, List.getElem_cons_succ, List.setIfInBounds_toArray, List.set_cons_zero, List.set_cons_succ]
          refine wpAnyH_take (i := 3) (v := .slice (some ⟨b, off, none⟩) n c) rfl (by kernel_rfl) (by kernel_rfl) (by kernel_rfl) (fun _ _ _ h => h) (Or.inl ⟨by rfl, fun W' hS' => by go_simp⟩) hS ?_
          simp only [Act.put, List.getElem_toArray, List.getElem_cons_zero, List.getElem_cons_succ, List.setIfInBounds_toArray, List.set_cons_zero, List.set_cons_succ]
          refine wpAnyH_take (i := 4) (v := .int .i64 n) rfl (by kernel_rfl) (by kernel_rfl) (by kernel_rfl) (fun _ _ _ h => h) (Or.inl ⟨by rfl, fun W' hS' => by go_simp⟩) hS ?_
          simp only [Act.put, List.getElem_toArray, List.getElem_cons_zero, List.getElem_cons_succ, List.setIfInBounds_toArray, List.set_cons_zero, List.set_cons_succ]
          refine wpAnyH_take (i := 5) (v := .slice (some ⟨b, off, none⟩) n n) rfl (by kernel_rfl) (by kernel_rfl) (by kernel_rfl) (fun _ _ _ h => h) (Or.inl ⟨by rfl, fun W' hS' => by have hsl := slice3_links W' (some ⟨b, off, none⟩) n c hnc; go_simp⟩) hS ?_
          simp only [Act.put, List.getElem_toArray, List.getElem_cons_zero, List.getElem_cons_succ, List.setIfInBounds_toArray, List.set_cons_zero, List.set_cons_succ]
          refine wpAnyH_take (i := 6) (v := .agg (XL.cells (.slice D3 dl c3)).toArray) rfl (by kernel_rfl) (by kernel_rfl) (by kernel_rfl) (fun _ _ _ h => h) (yieldsIf_load_mid (by rfl) 52 _ rfl _ _ rfl (Lk.cells XL (.slice D3 dl c3)) _ (fun W' hS' => rangeAt_of_blk_toArray (hX4.below hS' hX4.lt)) Tryd.underlying52 rfl (by rw [XL.cells_len (.slice D3 dl c3) hXp]; exact linkInfo)) hS ?_
          simp only [Act.put, List.getElem_toArray, List.getElem_cons_zero, List.getElem_cons_succ, List.setIfInBounds_toArray, List.set_cons_zero, List.set_cons_succ]
          refine wpAnyH_ready (rs := [7]) (by kernel_rfl) (by simp) ?_
          refine AllReadyH.cons rfl (fun Kq hKq => ?_) AllReadyH.nil
          simp only [List.getElem_toArray, List.getElem_cons_zero, List.getElem_cons_succ]
          rw [if_pos (by rfl)]
          refine wp_bslice_link _ rfl XL D3 dl c3 hXp rfl ?_
          have hXn := Blk.new w4.drew 52 (XL.cells (.slice D3 dl c3)).toArray
          have hS6 := hS.alloc hS.size (.cells (XL.cells (.slice D3 dl c3)).toArray 52)
          refine hKq.out _ _ hS6 (fun _ => ?_)
          clear hKq Kq hS
          obtain ⟨g6, hg6⟩ : ∃ g6, g6 = w4.drew.heap.size := ⟨_, rfl⟩
          rw [← hg6] at hXn ⊢
          generalize w4.drew.alloc (.cells (XL.cells (.slice D3 dl c3)).toArray 52) = w6 at hXn hS6 ⊢
          have hB6 := hB4.trans (hS6.mono hB4.size)
          have hLx : Leads w6 w6.heap.size (XL, .slice D3 dl c3) := ⟨hXp, D3, c3, by rw [show XL.data.length = dl by rw [HXL.out]; exact HDL.out.symm], by rw [show XL.data.length = dl by rw [HXL.out]; exact HDL.out.symm]; exact HC3.out, hc3', by rw [show XL.data = d by rw [HXL.out]]; exact (Rd.below hr5 hS6).more hS6.size⟩
          have hn10 : n ≤ 100000 := by have := HCH.out.1; have := HN.out; omega
          have HA6 := HA.out.later hB6
          refine wpAnyH_ready (rs := [8]) (by kernel_rfl) (by simp) ?_
          refine AllReadyH.cons rfl (fun Kq hKq => ?_) AllReadyH.nil
          simp only [List.getElem_toArray, List.getElem_cons_zero, List.getElem_cons_succ]
          rw [if_pos (by rfl)]
          refine wp_append_links _ _ rfl n rfl HN.out HA6 (fun e => by first | exact HAN.out e | exact ⟨rfl, rfl⟩) rfl XL hXn hLx hn10 ?_
          intro B7 c7 w7 hc7 hc7' hl7 hb7
          have hS7 := hS6.trans (hb7.mono hS6.size)
          refine hKq.out _ _ hS7 (fun _ => ?_)
          clear hKq Kq hS6 HA6 hXn hLx
          refine wpAnyH_take (i := 9) (v := .slice B7 (n + 1) c7) rfl (by kernel_rfl) (by kernel_rfl) (by kernel_rfl) (fun _ _ _ h => h) (Or.inl ⟨by rfl, fun W' hS' => by go_simp⟩) hS7 ?_
          simp only [Act.put, List.getElem_toArray, List.getElem_cons_zero, List.getElem_cons_succ, List.setIfInBounds_toArray, List.set_cons_zero, List.set_cons_succ]
          refine wpAnyH_take (i := 10) (v := .int .i64 0) rfl (by kernel_rfl) (by kernel_rfl) (by kernel_rfl) (fun _ _ _ h => h) (Or.inl ⟨by rfl, fun W' hS' => by go_simp⟩) hS7 ?_
          simp only [Act.put, List.getElem_toArray, List.getElem_cons_zero, List.getElem_cons_succ, List.setIfInBounds_toArray, List.set_cons_zero, List.set_cons_succ]
          refine wpAnyH_done (by kernel_rfl) ?_ _
          have hB7 := hB4.trans (hS7.mono hB4.size)
          have hadd : addL l node d = l ++ [XL] := by rw [addL, HXL.out, ← HN.out, ← HH.out]
          rw [← hadd] at hl7
          have HL7 := Lib.hid hl7
          clear hl7 hadd hS7 hb7
          go_wp2
          go_ret2
          exact .inl ⟨HERR2.out, B7, c7, (by rw [← HN.out]; first | done | rfl), by rw [← HN.out]; exact hc7, hc7', HL7.out, hB7⟩
      · have HB := Lib.hid (fun (w' : World) (hb : Below w.heap.size w w') => AddPost.bad (l := l) (node := node) (d := d) (E := 1) (by rw [HERR.out, if_pos (.inr (.inr (.inl ⟨by rw [← HN.out]; exact h0, by rw [HX.out]; exact fun e => hq e.symm⟩)))]) (by decide) rfl hb)
        have b1 : (node != xn) = true := by simpa using hq
        clear HERR HCH
        go_enter Tryd.func39, Tryd.ntmps39
        go_wp2_with fail
        refine HC.out.mono ?_
        rintro e w1 ⟨rfl, hb1⟩
        have k2 : w1.cell? ⟨b, off, none⟩ = some (.int .i64 xn) := (hb1.cell (p := ⟨b, off, none⟩) hbw).trans K1.out
        go_wp2_with (refine wpList_skip (by rfl) ?_)
        go_ret2
        exact HB.out _ hb1
    · obtain rfl : n = 0 := by omega
      have hne : ¬ (0 < l.length ∧ (l.getD 0 lk0).node ≠ node) := fun h => by have := h.1; have := HN.out; omega
      have HNE := Lib.hid hne
      clear hne
      by_cases c3 : 65536 < dn
      · have HB := Lib.hid (fun (w' : World) (hb : Below w.heap.size w w') => AddPost.bad (l := l) (node := node) (d := d) (E := 1) (by rw [HERR.out, if_pos (.inr (.inr (.inr (by rw [← HDN.out]; exact c3))))]) (by decide) rfl hb)
        clear HERR HCH HNE
        go_enter Tryd.func39, Tryd.ntmps39
        go_wp2_with fail
        refine HC.out.mono ?_
        rintro e w1 ⟨rfl, hb1⟩
        go_wp2_with (refine wpList_skip (by rfl) ?_)
        go_ret2
        exact HB.out _ hb1
      · have HERR2 := Lib.hid (show addErr l node d.length = 0 by rw [HERR.out, if_neg (by rintro (h | h | h | h) <;> first | exact HNE.out h | (have := HDN.out; omega)), if_neg (by rw [← HN.out]; decide)])
        have c3' : decide ((65536 : Int) < (dn : Int)) = false := decide_eq_false (by omega)
        clear HERR HNE
        go_enter Tryd.func39, Tryd.ntmps39
        go_wp2_with fail
        refine HC.out.mono ?_
        rintro e w1 ⟨rfl, hb1⟩
        go_wp2_with (refine wpList_skip (by rfl) ?_)
        have hH : Calls Tryd.prog 44 #[.slice A 0 c] w1 (Ret (.agg (dig (headOf l))) w1) := head_any A l 0 c HN.out (by have := HCH.out.1; have := HN.out; omega) (chk_fine HCH.out.2 HCH.out.1) w1 (HL.out.below hb1) (HA.out.later hb1)
        refine hH.mono ?_
        rintro e w2 ⟨rfl, hb2⟩
        have hB2 := hb1.trans (hb2.mono hb1.size)
        obtain ⟨H, hHd⟩ : ∃ H, H = headOf l := ⟨_, rfl⟩
        have hHl : H.length = 32 := by rw [hHd]; exact headOf_length _
        rw [← hHd]
        have HH := Lib.hid hHd
        clear hb1 hb2 hH hHd
        go_wp2_with fail
        refine (bClone_any D d dn dc HDN.out (by omega) w2 ((HD.out.below hB2).more hB2.size) HDNN.out).mono ?_
        rintro e w3 ⟨v3, rfl, hown3, hb3⟩
        have hB3 := hB2.trans (hb3.mono hB2.size)
        obtain ⟨D3, c3, rfl, -, hc3, hc3', hr3⟩ := own_shape hown3
        clear hown3 hb3 hB2
        obtain ⟨XL, hXL⟩ : ∃ XL : Lk, XL = ⟨node, (0 : Nat), H, d⟩ := ⟨_, rfl⟩
        have hXp : XL.prev.length = 32 := by rw [hXL]; exact hHl
        have hx0 : XL.node = node := by rw [hXL]
        have hx1 : XL.no = (0 : Nat) := by rw [hXL]
        have hx2 : XL.prev = H := by rw [hXL]
        have HX0 := Lib.hid hx0
        have HX1 := Lib.hid hx1
        have HX2 := Lib.hid hx2
        clear hx0 hx1 hx2
        have HXL := Lib.hid hXL
        have HC3 := Lib.hid hc3
        clear hXL hHl hc3
        obtain ⟨dl, hdl⟩ : ∃ dl, dl = d.length := ⟨_, rfl⟩
        rw [← hdl] at HC3
        try rw [← hdl]
        have HDL := Lib.hid hdl
        clear hdl
        go_wp2_with (first | (refine build_link rfl _ _ _ _ rfl XL D3 dl c3 hXp (by rw [HX0.out]; rfl) (by rw [HX1.out]; rfl) (by rw [HX2.out]; rfl) rfl ?_) | (refine store_link_new rfl _ _ rfl w3 _ _ XL D3 dl c3 hXp rfl rfl rfl ?_))
        have hX4 : Blk (w3.alloc (.cells (XL.cells (.slice D3 dl c3)).toArray 52)) w3.heap.size 52 (XL.cells (.slice D3 dl c3)).toArray := Blk.new _ _ _
        have hB4 : Below w.heap.size w (w3.alloc (.cells (XL.cells (.slice D3 dl c3)).toArray 52)) := hB3.alloc hB3.size _
        have hr4 := (hr3.alloc (Nat.le_refl _) (.cells (XL.cells (.slice D3 dl c3)).toArray 52))
        generalize (w3.alloc (.cells (XL.cells (.slice D3 dl c3)).toArray 52)) = w4 at hX4 hB4 hr4 ⊢
        obtain ⟨g, hg⟩ : ∃ g, g = w3.heap.size := ⟨_, rfl⟩
        rw [← hg] at hX4 ⊢
        have hr5 := Rd.more hr4 (show w3.heap.size ≤ w4.heap.size by rw [← hg]; exact Nat.le_of_lt hX4.lt)
        clear hg hr3 hr4 hB3
        go_wp2_with fail
        refine wp_region_held_drew (S := fun W' => Below w4.heap.size w4 W') (by kernel_rfl) (Below.refl _ _).drew (fun hS => ?_)
        refine wpAnyH_take (i := 0) (v := .slice A 0 c) rfl (by kernel_rfl) (by kernel_rfl) (by kernel_rfl) (fun _ _ _ h => h) (Or.inl ⟨by rfl, fun W' hS' => by go_simp⟩) hS ?_
        simp only [Act.put, List.getElem_toArray, List.getElem_cons_zero, List.getElem_cons_succ, List.setIfInBounds_toArray, List.set_cons_zero, List.set_cons_succ]
        refine wpAnyH_take (i := 1) (v := .slice A 0 c) rfl (by kernel_rfl) (by kernel_rfl) (by kernel_rfl) (fun _ _ _ h => h) (Or.inl ⟨by rfl, fun W' hS' => by go_simp⟩) hS ?_
        simp only [Act.put, List.getElem_toArray, List.getElem_cons_zero, List.getElem_cons_succ, List.setIfInBounds_toArray, List.set_cons_zero, List.set_cons_succ]
        refine wpAnyH_take (i := 2) (v := .int .i64 (0 : Nat)) rfl (by kernel_rfl) (by kernel_rfl) (by kernel_rfl) (fun _ _ _ h => h) (Or.inl ⟨by rfl, fun W' hS' => by go_simp⟩) hS ?_
        simp only [Act.put, List.getElem_toArray, List.getElem_cons_zero, List.getElem_cons_succ, List.setIfInBounds_toArray, List.set_cons_zero, List.set_cons_succ]
        refine wpAnyH_take (i := 3) (v := .slice A 0 c) rfl (by kernel_rfl) (by kernel_rfl) (by kernel_rfl) (fun _ _ _ h => h) (Or.inl ⟨by rfl, fun W' hS' => by go_simp⟩) hS ?_
        simp only [Act.put, List.getElem_toArray, List.getElem_cons_zero, List.getElem_cons_succ, List.setIfInBounds_toArray, List.set_cons_zero, List.set_cons_succ]
        refine wpAnyH_take (i := 4) (v := .int .i64 (0 : Nat)) rfl (by kernel_rfl) (by kernel_rfl) (by kernel_rfl) (fun _ _ _ h => h) (Or.inl ⟨by rfl, fun W' hS' => by go_simp⟩) hS ?_
        simp only [Act.put, List.getElem_toArray, List.getElem_cons_zero, List.getElem_cons_succ, List.setIfInBounds_toArray, List.set_cons_zero, List.set_cons_succ]
        refine wpAnyH_take (i := 5) (v := .slice A 0 0) rfl (by kernel_rfl) (by kernel_rfl) (by kernel_rfl) (fun _ _ _ h => h) (Or.inl ⟨by rfl, fun W' hS' => by have hsl := slice3_links W' A 0 c hnc; go_simp⟩) hS ?_
        simp only [Act.put, List.getElem_toArray, List.getElem_cons_zero, List.getElem_cons_succ, List.setIfInBounds_toArray, List.set_cons_zero, List.set_cons_succ]
        refine wpAnyH_take (i := 6) (v := .agg (XL.cells (.slice D3 dl c3)).toArray) rfl (by kernel_rfl) (by kernel_rfl) (by kernel_rfl) (fun _ _ _ h => h) (yieldsIf_load_mid (by rfl) 52 _ rfl _ _ rfl (Lk.cells XL (.slice D3 dl c3)) _ (fun W' hS' => rangeAt_of_blk_toArray (hX4.below hS' hX4.lt)) Tryd.underlying52 rfl (by rw [XL.cells_len (.slice D3 dl c3) hXp]; exact linkInfo)) hS ?_
        simp only [Act.put, List.getElem_toArray, List.getElem_cons_zero, List.getElem_cons_succ, List.setIfInBounds_toArray, List.set_cons_zero, List.set_cons_succ]
        refine wpAnyH_ready (rs := [7]) (by kernel_rfl) (by simp) ?_
        refine AllReadyH.cons rfl (fun Kq hKq => ?_) AllReadyH.nil
        simp only [List.getElem_toArray, List.getElem_cons_zero, List.getElem_cons_succ]
        rw [if_pos (by rfl)]
        refine wp_bslice_link _ rfl XL D3 dl c3 hXp rfl ?_
        have hXn := Blk.new w4.drew 52 (XL.cells (.slice D3 dl c3)).toArray
        have hS6 := hS.alloc hS.size (.cells (XL.cells (.slice D3 dl c3)).toArray 52)
        refine hKq.out _ _ hS6 (fun _ => ?_)
        clear hKq Kq hS
        obtain ⟨g6, hg6⟩ : ∃ g6, g6 = w4.drew.heap.size := ⟨_, rfl⟩
        rw [← hg6] at hXn ⊢
        generalize w4.drew.alloc (.cells (XL.cells (.slice D3 dl c3)).toArray 52) = w6 at hXn hS6 ⊢
        have hB6 := hB4.trans (hS6.mono hB4.size)
        have hLx : Leads w6 w6.heap.size (XL, .slice D3 dl c3) := ⟨hXp, D3, c3, by rw [show XL.data.length = dl by rw [HXL.out]; exact HDL.out.symm], by rw [show XL.data.length = dl by rw [HXL.out]; exact HDL.out.symm]; exact HC3.out, hc3', by rw [show XL.data = d by rw [HXL.out]]; exact (Rd.below hr5 hS6).more hS6.size⟩
        have hn10 : 0 ≤ 100000 := by have := HCH.out.1; have := HN.out; omega
        have HA6 := HA.out.later hB6
        refine wpAnyH_ready (rs := [8]) (by kernel_rfl) (by simp) ?_
        refine AllReadyH.cons rfl (fun Kq hKq => ?_) AllReadyH.nil
        simp only [List.getElem_toArray, List.getElem_cons_zero, List.getElem_cons_succ]
        rw [if_pos (by rfl)]
        refine wp_append_links _ _ rfl 0 rfl HN.out HA6 (fun e => by first | exact HAN.out e | exact ⟨rfl, rfl⟩) rfl XL hXn hLx hn10 ?_
        intro B7 c7 w7 hc7 hc7' hl7 hb7
        have hS7 := hS6.trans (hb7.mono hS6.size)
        refine hKq.out _ _ hS7 (fun _ => ?_)
        clear hKq Kq hS6 HA6 hXn hLx
        refine wpAnyH_take (i := 9) (v := .slice B7 (0 + 1) c7) rfl (by kernel_rfl) (by kernel_rfl) (by kernel_rfl) (fun _ _ _ h => h) (Or.inl ⟨by rfl, fun W' hS' => by go_simp⟩) hS7 ?_
        simp only [Act.put, List.getElem_toArray, List.getElem_cons_zero, List.getElem_cons_succ, List.setIfInBounds_toArray, List.set_cons_zero, List.set_cons_succ]
        refine wpAnyH_take (i := 10) (v := .int .i64 0) rfl (by kernel_rfl) (by kernel_rfl) (by kernel_rfl) (fun _ _ _ h => h) (Or.inl ⟨by rfl, fun W' hS' => by go_simp⟩) hS7 ?_
        simp only [Act.put, List.getElem_toArray, List.getElem_cons_zero, List.getElem_cons_succ, List.setIfInBounds_toArray, List.set_cons_zero, List.set_cons_succ]
        refine wpAnyH_done (by kernel_rfl) ?_ _
        have hB7 := hB4.trans (hS7.mono hB4.size)
        have hadd : addL l node d = l ++ [XL] := by rw [addL, HXL.out, ← HN.out, ← HH.out]
        rw [← hadd] at hl7
        have HL7 := Lib.hid hl7
        clear hl7 hadd hS7 hb7
        go_wp2
        go_ret2
        exact .inl ⟨HERR2.out, B7, c7, (by rw [← HN.out]; first | done | rfl), by rw [← HN.out]; exact hc7, hc7', HL7.out, hB7⟩
end Go.Proofs.YtibnikokgbfcdaaDoor

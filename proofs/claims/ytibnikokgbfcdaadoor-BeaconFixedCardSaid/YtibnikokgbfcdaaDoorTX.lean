/- Walk: podiumlaw31.text. -/
import Derived.Test.YtibnikokgbfcdaaDoorRC
namespace Go.Proofs.YtibnikokgbfcdaaDoor
open Go Go.RowKit

set_option maxRecDepth 100000 in
set_option linter.unusedSimpArgs false in
set_option linter.unusedVariables false in
set_option maxHeartbeats 4000000 in
theorem text31_any (x : Pd) (hx : x.dg.length = 32) (k : Nat) (hxk : x.party = k) (hk : k < 24) (w : World) : Calls Tryd.prog 57 #[.agg x.cells.toArray] w (Ret (.string ⟨(commitText k x.dg).toArray⟩) w) := by
  have hl := commitText_len k x.dg (by omega) hx
  obtain ⟨D, hD⟩ : ∃ D, D = x.dg := ⟨_, rfl⟩
  have hDl : D.length = 32 := by rw [hD]; exact hx
  rw [← hD] at hl ⊢
  have HEN := Lib.hid (fun W g (hE : Elems W W.heap.size (some ⟨g, 0, none⟩) [V4.int k, V4.text ⟨D.toArray⟩]) => encode_ok (V4.list (some ⟨g, 0, none⟩) 2 2) 1 (commitText k D) W (by
    refine enc_list W (some ⟨g, 0, none⟩) [V4.int k, V4.text ⟨D.toArray⟩] [intB k, textB D] 2 0 rfl hE (Nat.le_refl _) (by omega) (by show 2 ≤ _; omega) (by omega) fun i x e hx he => ?_
    rcases i with _ | _ | i
    · obtain rfl := Option.some.inj hx
      obtain rfl := Option.some.inj he
      exact enc_int W k (by omega)
    · obtain rfl := Option.some.inj hx
      obtain rfl := Option.some.inj he
      exact enc_text W ⟨D.toArray⟩
    · cases hx) (by decide) (by omega))
  obtain ⟨E, hE⟩ : ∃ E, E = commitText k D := ⟨_, rfl⟩
  rw [← hE] at HEN ⊢
  have HXD := Lib.hid hD
  have HXK := Lib.hid hxk
  clear hE hl hD hxk
  go_enter Tryd.func57, Tryd.ntmps57
  go_wp2_with fail
  refine wpr_gen (fun W => Blk W w.heap.size 69 x.cells.toArray ∧ Below w.heap.size w W) ⟨Blk.new w _ _, (Below.refl _ w).alloc (Nat.le_refl _) _⟩ (fun W0 ⟨bx, hb0⟩ => ?_)
  have K0 := Lib.hid (show W0.cell? ⟨w.heap.size, 0, none⟩ = some (.int .i64 k) by rw [← HXK.out]; exact pd_party bx)
  have KL := bx.lt
  have KR := Lib.hid (show W0.rangeAt w.heap.size 1 (dig D).toList by rw [HXD.out]; exact pd_dg bx hx)
  have HSTR := Lib.hid (show ∀ W', Below W0.heap.size W0 W' → (convert 39 9 (.slice (some ⟨w.heap.size, 1, none⟩) 32 32)).run Tryd.prog W' = .ok (.string ⟨D.toArray⟩) W' from fun W' h => by
    have hr : RdB W' W'.heap.size (some ⟨w.heap.size, 1, none⟩) D := fun _ => ⟨w.heap.size, 1, rfl, Nat.lt_of_lt_of_le KL h.size, fun j hj => by
      have := rangeAt_below KR.out h KL j (.int .u8 ((D.getD j 0).toNat : Int)) (by rw [Array.getElem?_toList]; exact dig_get D j hj)
      exact this⟩
    have := run_str (c := 32) hr
    rwa [hDl] at this)
  refine wp_region_held_drew (S := fun W' => Below W0.heap.size W0 W') (by kernel_rfl) (Below.refl _ _).drew (fun hS => ?_)
  refine wpAnyH_take (i := 0) (v := .pointer (some ⟨w.heap.size, 0, none⟩)) rfl (by kernel_rfl) (by kernel_rfl) (by kernel_rfl) (fun _ _ _ h => h) (Or.inl ⟨by rfl, fun W' hS' => by go_simp⟩) hS ?_
  simp only [Act.put, List.getElem_toArray, List.getElem_cons_zero, List.getElem_cons_succ, List.setIfInBounds_toArray, List.set_cons_zero, List.set_cons_succ]
  refine wpAnyH_take (i := 1) (v := .int .i64 (k : Int)) rfl (by kernel_rfl) (by kernel_rfl) (by kernel_rfl) (fun _ _ _ h => h) (Or.inl ⟨by rfl, fun W' hS' => by have := (hS'.cell (p := ⟨w.heap.size, 0, none⟩) KL).trans K0.out; go_simp⟩) hS ?_
  simp only [Act.put, List.getElem_toArray, List.getElem_cons_zero, List.getElem_cons_succ, List.setIfInBounds_toArray, List.set_cons_zero, List.set_cons_succ]
  refine wpAnyH_take (i := 2) (v := .agg #[.int .i64 1, .int .i64 k, .string ⟨#[]⟩, .slice none 0 0]) rfl (by kernel_rfl) (by kernel_rfl) (by kernel_rfl) (fun _ _ _ h => h) (Or.inl ⟨by rfl, fun W' hS' => by go_simp⟩) hS ?_
  simp only [Act.put, List.getElem_toArray, List.getElem_cons_zero, List.getElem_cons_succ, List.setIfInBounds_toArray, List.set_cons_zero, List.set_cons_succ]
  refine wpAnyH_take (i := 3) (v := .pointer (some ⟨w.heap.size, 1, none⟩)) rfl (by kernel_rfl) (by kernel_rfl) (by kernel_rfl) (fun _ _ _ h => h) (Or.inl ⟨by rfl, fun W' hS' => by go_simp⟩) hS ?_
  simp only [Act.put, List.getElem_toArray, List.getElem_cons_zero, List.getElem_cons_succ, List.setIfInBounds_toArray, List.set_cons_zero, List.set_cons_succ]
  refine wpAnyH_take (i := 4) (v := .slice (some ⟨w.heap.size, 1, none⟩) 32 32) rfl (by kernel_rfl) (by kernel_rfl) (by kernel_rfl) (fun _ _ _ h => h) (Or.inl ⟨by rfl, fun W' hS' => by go_simp⟩) hS ?_
  simp only [Act.put, List.getElem_toArray, List.getElem_cons_zero, List.getElem_cons_succ, List.setIfInBounds_toArray, List.set_cons_zero, List.set_cons_succ]
  refine wpAnyH_take (i := 5) (v := .string ⟨D.toArray⟩) rfl (by kernel_rfl) (by kernel_rfl) (by kernel_rfl) (fun _ _ _ h => h) (Or.inl ⟨by rfl, fun W' hS' => by have := HSTR.out W' hS'; go_simp⟩) hS ?_
  simp only [Act.put, List.getElem_toArray, List.getElem_cons_zero, List.getElem_cons_succ, List.setIfInBounds_toArray, List.set_cons_zero, List.set_cons_succ]
  refine wpAnyH_take (i := 6) (v := .agg #[.int .i64 2, .int .i64 0, .string ⟨D.toArray⟩, .slice none 0 0]) rfl (by kernel_rfl) (by kernel_rfl) (by kernel_rfl) (fun _ _ _ h => h) (Or.inl ⟨by rfl, fun W' hS' => by go_simp⟩) hS ?_
  simp only [Act.put, List.getElem_toArray, List.getElem_cons_zero, List.getElem_cons_succ, List.setIfInBounds_toArray, List.set_cons_zero, List.set_cons_succ]
  refine wpAnyH_ready (rs := [7]) (by kernel_rfl) (by simp) ?_
  refine AllReadyH.cons rfl (fun Kq hKq => ?_) AllReadyH.nil
  simp only [List.getElem_toArray, List.getElem_cons_zero, List.getElem_cons_succ]
  go_simp
  have hS6 : Below W0.heap.size W0 (W0.alloc (.cells #[.int .i64 1, .int .i64 k, .string ⟨#[]⟩, .slice none 0 0, .int .i64 2, .int .i64 0, .string ⟨D.toArray⟩, .slice none 0 0] 93)).drew := ((Below.refl _ W0).alloc (Nat.le_refl _) _).drew
  have hE6 : Elems (W0.alloc (.cells #[.int .i64 1, .int .i64 k, .string ⟨#[]⟩, .slice none 0 0, .int .i64 2, .int .i64 0, .string ⟨D.toArray⟩, .slice none 0 0] 93)).drew (W0.alloc (.cells #[.int .i64 1, .int .i64 k, .string ⟨#[]⟩, .slice none 0 0, .int .i64 2, .int .i64 0, .string ⟨D.toArray⟩, .slice none 0 0] 93)).drew.heap.size (some ⟨W0.heap.size, 0, none⟩) [V4.int k, V4.text ⟨D.toArray⟩] := elems_of_blk [V4.int k, V4.text ⟨D.toArray⟩] (Blk.new W0 _ _).drew
  refine hKq.out _ _ hS6 (fun _ => ?_)
  clear hKq Kq hS
  generalize (W0.alloc (.cells #[.int .i64 1, .int .i64 k, .string ⟨#[]⟩, .slice none 0 0, .int .i64 2, .int .i64 0, .string ⟨D.toArray⟩, .slice none 0 0] 93)).drew = W6 at hE6 hS6 ⊢
  refine wpAnyH_take (i := 8) (v := .agg #[.int .i64 3, .int .i64 0, .string ⟨#[]⟩, .slice (some ⟨W0.heap.size, 0, none⟩) 2 2]) rfl (by kernel_rfl) (by kernel_rfl) (by kernel_rfl) (fun _ _ _ h => h) (Or.inl ⟨by rfl, fun W' hS' => by go_simp⟩) hS6 ?_
  simp only [Act.put, List.getElem_toArray, List.getElem_cons_zero, List.getElem_cons_succ, List.setIfInBounds_toArray, List.set_cons_zero, List.set_cons_succ]
  refine wpAnyH_ready (rs := [9]) (by kernel_rfl) (by simp) ?_
  refine AllReadyH.cons rfl (fun Kq hKq => ?_) AllReadyH.nil
  simp only [List.getElem_toArray, List.getElem_cons_zero, List.getElem_cons_succ]
  go_simp
  refine (HEN.out W6 _ hE6).mono ?_
  rintro e W7 ⟨v7, rfl, hown7, hb7⟩
  have hS7 := hS6.trans (hb7.mono hS6.size)
  refine hKq.out _ _ hS7 (fun _ => ?_)
  clear hKq Kq hb7 hE6 hS6
  refine wpAnyH_take (i := 10) (v := .tuple #[v7, .int .i64 0]) rfl (by kernel_rfl) (by kernel_rfl) (by kernel_rfl) (fun _ _ _ h => h) (Or.inl ⟨by rfl, fun W' hS' => by go_simp⟩) hS7 ?_
  simp only [Act.put, List.getElem_toArray, List.getElem_cons_zero, List.getElem_cons_succ, List.setIfInBounds_toArray, List.set_cons_zero, List.set_cons_succ]
  refine wpAnyH_take (i := 11) (v := v7) rfl (by kernel_rfl) (by kernel_rfl) (by kernel_rfl) (fun _ _ _ h => h) (Or.inl ⟨by rfl, fun W' hS' => by go_simp⟩) hS7 ?_
  simp only [Act.put, List.getElem_toArray, List.getElem_cons_zero, List.getElem_cons_succ, List.setIfInBounds_toArray, List.set_cons_zero, List.set_cons_succ]
  refine wpAnyH_take (i := 12) (v := .int .i64 0) rfl (by kernel_rfl) (by kernel_rfl) (by kernel_rfl) (fun _ _ _ h => h) (Or.inl ⟨by rfl, fun W' hS' => by go_simp⟩) hS7 ?_
  simp only [Act.put, List.getElem_toArray, List.getElem_cons_zero, List.getElem_cons_succ, List.setIfInBounds_toArray, List.set_cons_zero, List.set_cons_succ]
  refine wpAnyH_take (i := 13) (v := v7) rfl (by kernel_rfl) (by kernel_rfl) (by kernel_rfl) (fun _ _ _ h => h) (Or.inl ⟨by rfl, fun W' hS' => by go_simp⟩) hS7 ?_
  simp only [Act.put, List.getElem_toArray, List.getElem_cons_zero, List.getElem_cons_succ, List.setIfInBounds_toArray, List.set_cons_zero, List.set_cons_succ]
  refine wpAnyH_take (i := 14) (v := .int .i64 0) rfl (by kernel_rfl) (by kernel_rfl) (by kernel_rfl) (fun _ _ _ h => h) (Or.inl ⟨by rfl, fun W' hS' => by go_simp⟩) hS7 ?_
  simp only [Act.put, List.getElem_toArray, List.getElem_cons_zero, List.getElem_cons_succ, List.setIfInBounds_toArray, List.set_cons_zero, List.set_cons_succ]
  refine wpAnyH_done (by kernel_rfl) ?_ _
  have hB7 := hb0.trans (hS7.mono hb0.size)
  obtain ⟨A7, c7, rfl, -, -, -, hr7⟩ := own_shape hown7
  have HST7 := Lib.hid (run_str (c := c7) hr7)
  obtain ⟨el, hel⟩ : ∃ el, el = E.length := ⟨_, rfl⟩
  rw [← hel] at HST7 ⊢
  have hst7 := HST7.out
  clear hown7 hr7 hS7 hel
  go_wp2_with fail
  go_ret
  exact ⟨rfl, hB7⟩
end Go.Proofs.YtibnikokgbfcdaaDoor

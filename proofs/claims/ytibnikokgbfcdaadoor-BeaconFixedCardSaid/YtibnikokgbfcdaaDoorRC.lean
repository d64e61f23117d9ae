/- Walks: podiumref31.Commit, Opens, Make. -/
import Derived.Test.YtibnikokgbfcdaaDoorBR
import Derived.Test.YtibnikokgbfcdaaDoorBeQ
import Derived.Test.YtibnikokgbfcdaaDoorBD
import Derived.Test.YtibnikokgbfcdaaDoorBF
namespace Go.Proofs.YtibnikokgbfcdaaDoor
open Go Go.RowKit

theorem wpr_gen {P : Program} {c : Code} {a : Act} {Q : Exit → Act → World → Prop} {W : World} (p : World → Prop) (hp : p W) (h : ∀ W0, p W0 → c.wp P Q a W0) : c.wp P Q a W := h W hp
/-- A digest stored, at one operation of a region that draws its order. -/
theorem wp_store_dig {o : Oper} {a : Act} {w : World} {K : Act → World → Prop} {Q : Exit → Act → World → Prop} (x y : Operand) (ho : o.op = .store 23 x y) {g : Nat} {c : Array Value} {t : TypeId} (hg : Blk w g t c) (d : List UInt8) (hd : d.length = 32)
    (hx : a.eval x = .pointer (some ⟨g, 0, none⟩)) (hy : a.eval y = .agg (dig d)) (hold : c.size = 32)
    (h : ∀ w', Blk w' g t (dig d) → Only w w' g → w'.heap.size = w.heap.size → K (a.put o.dst undef) w') : o.wp Tryd.prog a w K Q :=
  wp_store_row 23 x y ho g (dig d) hx hy t c hg (dig_info d hd) (by rw [hold, dig_size, hd]) (dig_one d)
    (h _ (setRow_heap w g c _ t _ hg) ⟨rfl, rfl, rfl, by simp, fun i _ hne => setRow_other w g i _ (fun e => hne (by rw [e]))⟩ (by simp))
/-- The digest of a party and a value, by the reference. -/
theorem r31tag_pair (k : Nat) (hk : k < 24) (d : List UInt8) (hd : d.length = 32) (w : World) (g c : Nat) (hc : 2 ≤ c) (hc2 : c ≤ 9223372036854775807) (hE : Elems w w.heap.size (some ⟨g, 0, none⟩) [V4.int k, V4.text ⟨d.toArray⟩]) :
    Calls Tryd.prog 99 #[.string ⟨#[112, 108, 101, 100, 103, 101]⟩, .agg #[.int .i64 3, .int .i64 0, .string ⟨#[]⟩, .slice (some ⟨g, 0, none⟩) 2 c]] w (Ret (.agg (dig (commitOf k d))) w) := by
  have hl := commitText_len k d (by omega) hd
  refine r31Tagged_any ⟨#[112, 108, 101, 100, 103, 101]⟩ (by decide) _ _ _ _ (V4.list (some ⟨g, 0, none⟩) 2 c) rfl 1 (commitText k d) w ?_ (by decide) (by omega)
  refine renc_list w (some ⟨g, 0, none⟩) [V4.int k, V4.text ⟨d.toArray⟩] [intB k, textB d] c 0 rfl hE hc hc2 (by unfold commitText at hl; omega) (by decide) fun i x e hx he => ?_
  rcases i with _ | _ | i
  · obtain rfl := Option.some.inj hx
    obtain rfl := Option.some.inj he
    exact renc_int w k (by omega)
  · obtain rfl := Option.some.inj hx
    obtain rfl := Option.some.inj he
    exact renc_text w ⟨d.toArray⟩ (by show d.toArray.size ≤ _; simp [hd])
  · cases hx
set_option maxRecDepth 100000 in
set_option linter.unusedSimpArgs false in
set_option linter.unusedVariables false in
set_option maxHeartbeats 4000000 in
theorem r31Commit_any (k : Nat) (hk : k < 24) (d : List UInt8) (hd : d.length = 32) (w : World) : Calls Tryd.prog 90 #[.int .i64 k, .agg (dig d)] w (Ret (.agg (dig (commitOf k d))) w) := by
  have hcl := commitOf_length k d
  have HT := Lib.hid (fun W g (hE : Elems W W.heap.size (some ⟨g, 0, none⟩) [V4.int k, V4.text ⟨d.toArray⟩]) => r31tag_pair k hk d hd W g 2 (by omega) (by omega) hE)
  obtain ⟨C, hC⟩ : ∃ C, C = commitOf k d := ⟨_, rfl⟩
  rw [← hC] at HT hcl ⊢
  clear hC
  go_enter Tryd.func90, Tryd.ntmps90
  go_wp2_with fail
  refine wpr_gen (fun W => Blk W w.heap.size 23 (dig d) ∧ Blk W (w.heap.size + 1) 23 (dig zdg) ∧ Below w.heap.size w W) ⟨(Blk.new w _ _).alloc _, Blk.new' _ _ _ (by simp), ((Below.refl _ w).alloc (Nat.le_refl _) _).alloc (by simp) _⟩ (fun W0 ⟨bd, bz, hb0⟩ => ?_)
  have HST := Lib.hid (show ∀ W W', (Blk W w.heap.size 23 (dig d) ∧ Below w.heap.size w W) → Below W.heap.size W W' → (Blk W' w.heap.size 23 (dig d) ∧ Below w.heap.size w W') from fun W W' h hb => ⟨h.1.below hb h.1.lt, h.2.trans (hb.mono h.2.size)⟩)
  refine wp_region_held_drew (S := fun W' => Blk W' w.heap.size 23 (dig d) ∧ Below w.heap.size w W') (by kernel_rfl) ⟨bd.drew, hb0.drew⟩ (fun hS => ?_)
  have bz0 := bz.drew
  clear bd bz hb0
  refine wpAnyH_take (i := 0) (v := .int .i64 (k : Int)) rfl (by kernel_rfl) (by kernel_rfl) (by kernel_rfl) (fun _ _ _ h => h) (Or.inl ⟨by rfl, fun W' hS' => by go_simp⟩) hS ?_
  simp only [Act.put, List.getElem_toArray, List.getElem_cons_zero, List.getElem_cons_succ, List.setIfInBounds_toArray, List.set_cons_zero, List.set_cons_succ]
  refine wpAnyH_take (i := 2) (v := .agg (dig d)) rfl (by kernel_rfl) (by kernel_rfl) (by kernel_rfl) (fun _ _ _ h => h) (yields_dig (by rfl) _ rfl _ rfl d hd (fun W' hS' => hS'.1)) hS ?_
  simp only [Act.put, List.getElem_toArray, List.getElem_cons_zero, List.getElem_cons_succ, List.setIfInBounds_toArray, List.set_cons_zero, List.set_cons_succ]
  refine wpAnyH_ready (rs := [1]) (by kernel_rfl) (by simp) ?_
  refine AllReadyH.cons rfl (fun Kq hKq => ?_) AllReadyH.nil
  simp only [List.getElem_toArray, List.getElem_cons_zero, List.getElem_cons_succ]
  go_simp
  refine (r31Number_any (k : Int) _).mono ?_
  rintro e W1 ⟨rfl, hb1⟩
  have hS1 := HST.out _ _ hS hb1
  have bz1 := bz0.below hb1 bz0.lt
  refine hKq.out _ _ hS1 (fun _ => ?_)
  clear hKq Kq hb1 hS bz0
  refine wpAnyH_ready (rs := [3]) (by kernel_rfl) (by simp) ?_
  refine AllReadyH.cons rfl (fun Kq hKq => ?_) AllReadyH.nil
  simp only [List.getElem_toArray, List.getElem_cons_zero, List.getElem_cons_succ]
  go_simp
  refine (r31Text_any d hd _).mono ?_
  rintro e W2 ⟨rfl, hb2⟩
  have hS2 := HST.out _ _ hS1 hb2
  have bz2 := bz1.below hb2 bz1.lt
  refine hKq.out _ _ hS2 (fun _ => ?_)
  clear hKq Kq hb2 hS1 bz1
  refine wpAnyH_ready (rs := [4]) (by kernel_rfl) (by simp) ?_
  refine AllReadyH.cons rfl (fun Kq hKq => ?_) AllReadyH.nil
  simp only [List.getElem_toArray, List.getElem_cons_zero, List.getElem_cons_succ]
  go_simp
  have hE0 : Elems (W2.alloc (.cells #[.int .i64 1, .int .i64 k, .string ⟨#[]⟩, .slice none 0 0, .int .i64 2, .int .i64 0, .string ⟨d.toArray⟩, .slice none 0 0] 93)) (W2.alloc (.cells #[.int .i64 1, .int .i64 k, .string ⟨#[]⟩, .slice none 0 0, .int .i64 2, .int .i64 0, .string ⟨d.toArray⟩, .slice none 0 0] 93)).heap.size (some ⟨W2.heap.size, 0, none⟩) [V4.int k, V4.text ⟨d.toArray⟩] := elems_of_blk [V4.int k, V4.text ⟨d.toArray⟩] (Blk.new W2 _ _)
  have hb3 : Below W2.heap.size W2 (W2.alloc (.cells #[.int .i64 1, .int .i64 k, .string ⟨#[]⟩, .slice none 0 0, .int .i64 2, .int .i64 0, .string ⟨d.toArray⟩, .slice none 0 0] 93)) := (Below.refl _ W2).alloc (Nat.le_refl _) _
  have hS3 := HST.out _ _ hS2 hb3
  have bz3 := bz2.below hb3 bz2.lt
  refine hKq.out _ _ hS3 (fun _ => ?_)
  clear hKq Kq hS2 bz2 hb3
  obtain ⟨ge, hge⟩ : ∃ ge, ge = W2.heap.size := ⟨_, rfl⟩
  rw [← hge] at hE0 ⊢
  generalize W2.alloc (.cells #[.int .i64 1, .int .i64 k, .string ⟨#[]⟩, .slice none 0 0, .int .i64 2, .int .i64 0, .string ⟨d.toArray⟩, .slice none 0 0] 93) = W3 at hE0 hS3 bz3 ⊢
  clear hge
  refine wpAnyH_ready (rs := [5]) (by kernel_rfl) (by simp) ?_
  refine AllReadyH.cons rfl (fun Kq hKq => ?_) AllReadyH.nil
  simp only [List.getElem_toArray, List.getElem_cons_zero, List.getElem_cons_succ]
  go_simp
  refine (r31List_any (some ⟨ge, 0, none⟩) 2 2 _).mono ?_
  rintro e W4 ⟨rfl, hb4⟩
  have hE4 := hE0.later hb4
  have hS4 := HST.out _ _ hS3 hb4
  have bz4 := bz3.below hb4 bz3.lt
  refine hKq.out _ _ hS4 (fun _ => ?_)
  clear hKq Kq hb4 hS3 bz3 hE0
  refine wpAnyH_ready (rs := [6]) (by kernel_rfl) (by simp) ?_
  refine AllReadyH.cons rfl (fun Kq hKq => ?_) AllReadyH.nil
  simp only [List.getElem_toArray, List.getElem_cons_zero, List.getElem_cons_succ]
  go_simp
  refine (HT.out W4 ge hE4).mono ?_
  rintro e W5 ⟨rfl, hb5⟩
  have hS5 := HST.out _ _ hS4 hb5
  have bz5 := bz4.below hb5 bz4.lt
  refine hKq.out _ _ hS5 (fun _ => ?_)
  clear hKq Kq hb5 hS4 bz4 hE4
  refine wpAnyH_ready (rs := [7]) (by kernel_rfl) (by simp) ?_
  refine AllReadyH.cons rfl (fun Kq hKq => ?_) AllReadyH.nil
  simp only [List.getElem_toArray, List.getElem_cons_zero, List.getElem_cons_succ]
  rw [if_pos (by rfl)]
  refine wp_store_dig _ _ rfl bz5 C hcl rfl rfl rfl ?_
  intro w8 hD8 hO8 hz8
  have hS8 : Blk w8 w.heap.size 23 (dig d) ∧ Below w.heap.size w w8 := ⟨(hO8.block _ hS5.1.lt (fun e => by have := Option.some.inj e; omega)).trans hS5.1, hS5.2.trans (hO8.toBelow hS5.2.size (Nat.le_succ _))⟩
  refine hKq.out _ _ hS8 (fun _ => ?_)
  clear hKq Kq hS5 bz5
  refine wpAnyH_done (by kernel_rfl) ?_ _
  go_wp2_with fail
  refine bodyPost_ret (results_cell_row rfl _ _ (w.heap.size + 1) 23 _ (0, 0) _ rfl hD8 Tryd.underlying23 rfl (dig_info _ hcl)) rfl ?_
  exact ⟨rfl, hS8.2⟩
set_option maxRecDepth 100000 in
set_option linter.unusedSimpArgs false in
set_option linter.unusedVariables false in
set_option maxHeartbeats 4000000 in
theorem r31Opens_any (p x : Pd) (hp : p.dg.length = 32) (hx : x.dg.length = 32) (hr : 0 ≤ x.party ∧ x.party < 24) (w : World) : Calls Tryd.prog 59 #[.agg p.cells.toArray, .agg x.cells.toArray] w (Ret (.bool (opensP p x)) w) := by
  obtain ⟨k, hk⟩ : ∃ k : Nat, x.party = k := ⟨x.party.toNat, by omega⟩
  have hk24 : k < 24 := by omega
  have HC := Lib.hid (fun W => r31Commit_any k hk24 x.dg hx W)
  have hcl := commitOf_length k x.dg
  obtain ⟨C, hC⟩ : ∃ C, C = commitOf k x.dg := ⟨_, rfl⟩
  have HO := Lib.hid (show opensP p x = (decide (p.party = (k : Int)) && decide (C = p.dg)) by rw [opensP, hk, hC, Int.toNat_natCast])
  rw [← hC] at HC hcl
  clear hC
  obtain ⟨pp, hpp⟩ : ∃ pp, pp = p.party := ⟨_, rfl⟩
  rw [← hpp] at HO
  have HPP := Lib.hid hpp
  have HK := Lib.hid hk
  clear hpp hk
  go_enter Tryd.func59, Tryd.ntmps59
  go_wp2_with fail
  refine wpr_gen (fun W => Blk W w.heap.size 61 p.cells.toArray ∧ Blk W (w.heap.size + 1) 69 x.cells.toArray ∧ Below w.heap.size w W) ⟨(Blk.new w _ _).alloc _, Blk.new' _ _ _ (by simp), ((Below.refl _ w).alloc (Nat.le_refl _) _).alloc (by simp) _⟩ (fun W0 ⟨bp, bx, hb0⟩ => ?_)
  have c1 : W0.cell? ⟨w.heap.size, 0, none⟩ = some (.int .i64 pp) := by rw [HPP.out]; exact pd_party bp
  have c2 : W0.cell? ⟨w.heap.size + 1, 0, none⟩ = some (.int .i64 k) := by rw [← HK.out]; exact pd_party bx
  have k1 : ∀ i : Ext W0, i.W.cell? ⟨w.heap.size, 0, none⟩ = some (.int .i64 pp) := Ext.cell c1
  have k2 : ∀ i : Ext W0, i.W.cell? ⟨w.heap.size + 1, 0, none⟩ = some (.int .i64 k) := Ext.cell c2
  have HRP := Lib.hid (pd_dg bp hp)
  have HRX := Lib.hid (pd_dg bx hx)
  clear c1 c2 bp bx
  by_cases t1 : pp = (k : Int)
  · have g1 : (pp == (k : Int)) = true := beq_iff_eq.2 t1
    have hres : opensP p x = decide (C = p.dg) := by rw [HO.out, decide_eq_true t1, Bool.true_and]
    have HRES := Lib.hid hres
    clear t1 hres
    refine wp_region_quiet_ext (by kernel_rfl) (by kernel_rfl) ?_
    repeat (first
      | (go_big_quiet_want; refine quiet_load_dig _ rfl w.heap.size 1 rfl p.dg hp (Ext.range HRP.out) ?_; simp only [Act.put, List.setIfInBounds_toArray, List.set_cons_zero, List.set_cons_succ]; go_big_quiet_on)
      | (go_big_quiet_want; refine quiet_load_dig _ rfl (w.heap.size + 1) 1 rfl x.dg hx (Ext.range HRX.out) ?_; simp only [Act.put, List.setIfInBounds_toArray, List.set_cons_zero, List.set_cons_succ]; go_big_quiet_on)
      | (refine bq_eql_dig (by rfl) _ _ _ rfl C p.dg hcl hp rfl rfl ?_; simp only [Act.put, List.setIfInBounds_toArray, List.set_cons_zero, List.set_cons_succ])
      | go_big_quiet_step ((go_at_call 90; exact Ext.call (HC.out _))))
    refine wpQuiet_nil ?_
    rintro Wd ⟨⟨_, hWd⟩, rfl⟩
    have hBd := hb0.trans (hWd.mono hb0.size)
    go_wp2_with fail
    go_ret
    exact ⟨(by rw [HRES.out]; first | done | rfl), hBd⟩
  · have g1 : (pp == (k : Int)) = false := beq_eq_false_iff_ne.2 t1
    have hres : opensP p x = false := by rw [HO.out, decide_eq_false t1, Bool.false_and]
    have HRES := Lib.hid hres
    clear t1 hres
    refine wp_region_quiet_ext (by kernel_rfl) (by kernel_rfl) ?_
    repeat (go_big_quiet_step ((go_at_call 90; exact Ext.call (HC.out _))))
    refine wpQuiet_nil ?_
    rintro Wd ⟨⟨_, hWd⟩, rfl⟩
    have hBd := hb0.trans (hWd.mono hb0.size)
    go_wp2_with fail
    go_ret
    exact ⟨(by rw [HRES.out]; first | done | rfl), hBd⟩
set_option maxRecDepth 100000 in
set_option linter.unusedSimpArgs false in
set_option linter.unusedVariables false in
set_option maxHeartbeats 4000000 in
theorem r31Make_good (k : Nat) (hk : k < 24) (v : List UInt8) (hv : v.length = 32) (w : World) : Calls Tryd.prog 50 #[.int .i64 k, .agg (dig v)] w (Ret (makeV (⟨k, commitOf k v⟩, 0)) w) := by
  have hc := commitOf_length k v
  have HC := Lib.hid (fun W => r31Commit_any k hk v hv W)
  obtain ⟨C, hC⟩ : ∃ C, C = commitOf k v := ⟨_, rfl⟩
  rw [← hC] at HC hc ⊢
  have HP := Lib.hid (fun W => r31party_any (k : Int) W)
  rw [show partyB (k : Int) = true by rw [partyB, Bool.and_eq_true, decide_eq_true_eq, decide_eq_true_eq]; omega] at HP
  clear hC
  go_enter Tryd.func50, Tryd.ntmps50
  go_wp2_with fail
  refine calls_gen (fun W => Blk W w.heap.size 23 (dig v) ∧ Blk W (w.heap.size + 1) 61 zpd.cells.toArray ∧ Below w.heap.size w W) ⟨(Blk.new w _ _).alloc _, Blk.new' _ _ _ (by simp), ((Below.refl _ w).alloc (Nat.le_refl _) _).alloc (by simp) _⟩ (fun W0 ⟨bv, bz, hb0⟩ => ?_)
  refine (HP.out W0).mono ?_
  rintro e w1 ⟨rfl, rfl⟩
  go_wp2_with (first
    | (refine wpList_skip (by rfl) ?_)
    | (refine load_dig rfl _ rfl v hv bv rfl ?_))
  refine (HC.out W0).mono ?_
  rintro e w2 ⟨rfl, hb2⟩
  have hP := bz.below hb2 bz.lt
  have hB2 := hb0.trans (hb2.mono hb0.size)
  clear bv bz hb0 hb2
  go_wp2_with (first
    | (refine build_pd built_pledge rfl _ _ rfl (k : Int) C hc rfl rfl ?_)
    | (refine store_pd pledgeInfo rfl _ _ rfl hP ⟨(k : Int), C⟩ hc rfl rfl rfl ?_; intro w8 hD8 hO8 hz8))
  refine bodyPost_ret (results_row_tmp rfl _ _ (w.heap.size + 1) 61 _ (0, 0) _ (.int .i64 0) rfl rfl hD8 Tryd.underlying61 rfl (by rw [List.size_toArray, Pd.cells_len _ hc]; exact pledgeInfo)) rfl ?_
  exact ⟨rfl, hB2.trans (hO8.toBelow hB2.size (Nat.le_succ _))⟩
set_option maxRecDepth 100000 in
set_option linter.unusedSimpArgs false in
set_option linter.unusedVariables false in
set_option maxHeartbeats 4000000 in
theorem r31Make_bad (k : Int) (hk : ¬ (0 ≤ k ∧ k < 24)) (v : List UInt8) (w : World) : Calls Tryd.prog 50 #[.int .i64 k, .agg (dig v)] w (Ret (makeV (zpd, 310)) w) := by
  have HP := Lib.hid (fun W => r31party_any k W)
  rw [show partyB k = false by rw [partyB, Bool.and_eq_false_iff, decide_eq_false_iff_not, decide_eq_false_iff_not]; omega] at HP
  clear hk
  go_enter Tryd.func50, Tryd.ntmps50
  go_wp2_with fail
  refine calls_gen (fun W => Blk W (w.heap.size + 1) 61 zpd.cells.toArray ∧ Below w.heap.size w W) ⟨Blk.new' _ _ _ (by simp), ((Below.refl _ w).alloc (Nat.le_refl _) _).alloc (by simp) _⟩ (fun W0 ⟨hP, hB1⟩ => ?_)
  refine (HP.out W0).mono ?_
  rintro e w1 ⟨rfl, rfl⟩
  go_wp2_with (first
    | (refine wpList_skip (by rfl) ?_)
    | (refine build_pd0 rfl rfl ?_)
    | (refine store_pd pledgeInfo rfl _ _ rfl hP zpd rfl rfl rfl rfl ?_; intro w8 hD8 hO8 hz8))
  refine bodyPost_ret (results_row_tmp rfl _ _ (w.heap.size + 1) 61 _ (0, 0) _ (.int .i64 310) rfl rfl hD8 Tryd.underlying61 rfl (by exact pledgeInfo)) rfl ?_
  exact ⟨rfl, hB1.trans (hO8.toBelow hB1.size (Nat.le_succ _))⟩
theorem r31Make_any (k : Int) (v : List UInt8) (hv : v.length = 32) (w : World) : Calls Tryd.prog 50 #[.int .i64 k, .agg (dig v)] w (Ret (makeV (makeOf k v)) w) := by
  by_cases h : 0 ≤ k ∧ k < 24
  · rw [makeOf, if_pos h]
    obtain ⟨n, rfl⟩ : ∃ n : Nat, k = n := ⟨k.toNat, by omega⟩
    exact r31Make_good n (by omega) v hv w
  · rw [makeOf, if_neg h]
    exact r31Make_bad k h v w
end Go.Proofs.YtibnikokgbfcdaaDoor

/- Walks: podiumref08.Few, Same; chain.differ; chain.Part. -/
import Derived.Test.YtibnikokgbfcdaaDoorC3
import Derived.Test.YtibnikokgbfcdaaDoorC4
namespace Go.Proofs.YtibnikokgbfcdaaDoor
open Go Go.RowKit

instance : DecidableEq Lk := fun x y => decidable_of_iff _ (eqLk_iff x y)
theorem eqLk_dec (x y : Lk) : eqLk x y = decide (x = y) := by
  by_cases h : x = y
  · rw [decide_eq_true h, (eqLk_iff x y).2 h]
  · rw [decide_eq_false h]
    exact Bool.eq_false_iff.2 fun e => h ((eqLk_iff x y).1 e)
def fewLk (l : List Lk) : Bool := decide (l.length ≤ 16) && l.all (fun x => decide (x.data.length ≤ 300))
theorem fewLk_iff (l : List Lk) : fewLk l = true ↔ l.length ≤ 16 ∧ ∀ (k : Nat) x, l[k]? = some x → x.data.length ≤ 300 := by
  simp only [fewLk, Bool.and_eq_true, decide_eq_true_eq, List.all_eq_true]
  refine and_congr_right fun _ => ⟨fun h k x hx => h x (List.mem_of_getElem? hx), fun h x hx => ?_⟩
  obtain ⟨k, hk⟩ := List.mem_iff_getElem?.1 hx
  exact h k x hk
set_option maxRecDepth 100000 in
set_option maxHeartbeats 4000000 in
theorem r8Few_any (A : Option Addr) (l : List Lk) (n c : Nat) (hn : n = l.length) (hn2 : n ≤ 9223372036854775807) (w : World) (hA : LRd w w.heap.size A l) (hd : ∀ x ∈ l, x.data.length ≤ 9223372036854775807) :
    Calls Tryd.prog 38 #[.slice A n c] w (fun e w' => e = .returned (.bool (fewLk l)) ∧ w = w') := by
  have HA := Lib.hid hA
  have HN := Lib.hid hn
  have HD := Lib.hid hd
  clear hA hn hd
  by_cases h16 : 16 < n
  · have hf : fewLk l = false := Bool.eq_false_iff.2 fun h => by have := ((fewLk_iff l).1 h).1; have := HN.out; omega
    rw [hf]
    go_enter Tryd.func38, Tryd.ntmps38
    go_wp2
    go_ret
    exact ⟨rfl, rfl⟩
  · have h16' : n ≤ 16 := by omega
    go_enter Tryd.func38, Tryd.ntmps38
    go_wp2_with fail
    go_loopw [3] (fun i wr => ∃ k : Nat, k ≤ n ∧ i = .int .i64 k ∧ w = wr ∧ ∀ (j : Nat) x, j < k → l[j]? = some x → x.data.length ≤ 300) (fun i _ => n - (intOf i).toNat)
    case atStart => exact ⟨0, by omega, rfl, rfl, fun j x h => by omega⟩
    case round =>
      obtain ⟨k, hk, rfl, rfl, hall⟩ := hrel
      have HALL := Lib.hid hall
      clear hall
      by_cases hlt : k < n
      · obtain ⟨x, hx⟩ : ∃ x, l[k]? = some x := ⟨_, List.getElem?_eq_getElem (by rw [← HN.out]; exact hlt)⟩
        obtain ⟨b, off, rfl, _, hp, D, dc, hrg, _, _, _⟩ := HA.out.at_ hx
        have hc : w.cell? ⟨b, off + k * 35 + 34, none⟩ = some (.slice D x.data.length dc) := hrg 34 _ (Lk.at_data x _ hp)
        obtain ⟨dl, hdl⟩ : ∃ dl, dl = x.data.length := ⟨_, rfl⟩
        have hdm : dl ≤ 9223372036854775807 := by rw [hdl]; exact HD.out x (List.mem_of_getElem? hx)
        rw [← hdl] at hc
        have HX := Lib.hid hx
        have HDL := Lib.hid hdl
        clear hx hrg hp hdl
        by_cases h300 : 300 < dl
        · have hf : fewLk l = false := Bool.eq_false_iff.2 fun h => by have := ((fewLk_iff l).1 h).2 k x HX.out; have := HDL.out; omega
          go_wp2
          go_ret
          exact ⟨by rw [hf]; rfl, rfl⟩
        · have h300' : dl ≤ 300 := by omega
          go_wp2
          go_roundw
          case rel => exact ⟨k + 1, by omega, by go_num, trivial, fun j y hj hy => by
            rcases Nat.lt_or_ge j k with h | h
            · exact HALL.out j y h hy
            · obtain rfl : j = k := by omega
              rw [HX.out] at hy
              obtain rfl := Option.some.inj hy
              rw [← HDL.out]; exact h300'⟩
          case measure => simp [intOf]; omega
      · have hf : fewLk l = true := (fewLk_iff l).2 ⟨by rw [← HN.out]; exact h16', fun j x hx => HALL.out j x (by have := (List.getElem?_eq_some_iff.1 hx).1; have := HN.out; omega) hx⟩
        go_wp2
        go_ret
        exact ⟨by rw [hf]; rfl, rfl⟩
theorem take_next {l m : List Lk} {k : Nat} {x y : Lk} (hx : l[k]? = some x) (hy : m[k]? = some y) (h : l.take k = m.take k) (e : x = y) : l.take (k + 1) = m.take (k + 1) := by
  rw [List.take_add_one, List.take_add_one, h, hx, hy, e]
def SameInv (w : World) (l m : List Lk) (n : Nat) (i : Value) (wr : World) : Prop := ∃ k : Nat, k ≤ n ∧ i = .int .i64 k ∧ Below w.heap.size w wr ∧ l.take k = m.take k
set_option maxRecDepth 100000 in
set_option linter.unusedSimpArgs false in
set_option linter.unusedVariables false in
set_option maxHeartbeats 4000000 in
theorem r8Same_any (A B : Option Addr) (l m : List Lk) (n n2 c c2 : Nat) (hn : n = l.length) (hm : n2 = m.length) (hnc : n ≤ c) (hnc2 : n2 ≤ c2) (hcc : c ≤ 9223372036854775807) (hcc2 : c2 ≤ 9223372036854775807) (w : World) (hA : LRd w w.heap.size A l) (hB : LRd w w.heap.size B m) :
    Calls Tryd.prog 43 #[.slice A n c, .slice B n2 c2] w (Ret (.bool (decide (l = m))) w) := by
  have HA := Lib.hid hA
  have HB := Lib.hid hB
  have HN := Lib.hid hn
  have HM := Lib.hid hm
  clear hA hB hn hm
  by_cases hlen : n = n2
  rotate_left
  · have hf : decide (l = m) = false := decide_eq_false fun e => hlen (by rw [HN.out, HM.out, e])
    rw [hf]
    go_enter Tryd.func43, Tryd.ntmps43
    go_wp2
    go_ret
    exact ⟨rfl, Below.refl _ _⟩
  · subst hlen
    go_enter Tryd.func43, Tryd.ntmps43
    go_wp2_with fail
    go_loopw [5] (fun i wr => SameInv w l m n i wr) (fun i _ => n - (intOf i).toNat)
    case atStart => exact ⟨0, by omega, rfl, Below.refl _ _, rfl⟩
    case round =>
      obtain ⟨k, hk, rfl, hB, hall⟩ := hrel
      have HALL := Lib.hid hall
      clear hall
      by_cases hlt : k < n
      · obtain ⟨x, hx⟩ : ∃ x, l[k]? = some x := ⟨_, List.getElem?_eq_getElem (by rw [← HN.out]; omega)⟩
        obtain ⟨y, hy⟩ : ∃ y, m[k]? = some y := ⟨_, List.getElem?_eq_getElem (by rw [← HM.out]; omega)⟩
        obtain ⟨b, off, rfl, hbw, hp, D, dc, hrg, hdc, hdc2, hrd⟩ := (HA.out.below hB).at_ hx
        obtain ⟨b2, off2, rfl, hbw2, hp2, E, ec, hrg2, hec, hec2, hre⟩ := (HB.out.below hB).at_ hy
        have hsz := hB.size
        obtain ⟨CX, hCX⟩ : ∃ c, c = (x.cells (.slice D x.data.length dc)).toArray := ⟨_, rfl⟩
        obtain ⟨CY, hCY⟩ : ∃ c, c = (y.cells (.slice E y.data.length ec)).toArray := ⟨_, rfl⟩
        have HCX := Lib.hid hCX
        have HCY := Lib.hid hCY
        have HX := Lib.hid hx
        have HY := Lib.hid hy
        have HRD := Lib.hid (hrd.more hsz)
        have HRE := Lib.hid (hre.more hsz)
        have HXY := Lib.hid (eqLk_iff x y)
        obtain ⟨eq, heq⟩ : ∃ eq, eq = eqLk x y := ⟨_, rfl⟩
        have HEQ := Lib.hid heq
        have HZ := Lib.hid hsz
        clear hx hy hrd hre hsz heq hCX hCY
        go_wp2_with fail
        refine wp_region_held_drew (S := fun W' => Below wr.heap.size wr W') (by kernel_rfl) (Below.refl _ _).drew (fun hS => ?_)
        refine wpAnyH_take (i := 0) (v := .slice (some ⟨b, off, none⟩) n c) rfl (by kernel_rfl) (by kernel_rfl) (by kernel_rfl) (fun _ _ _ h => h) (Or.inl ⟨by rfl, fun W' hS' => by go_simp⟩) hS ?_
        simp only [Act.put, List.setIfInBounds_toArray, List.set_cons_zero, List.set_cons_succ]
        refine wpAnyH_take (i := 1) (v := .int .i64 k) rfl (by kernel_rfl) (by kernel_rfl) (by kernel_rfl) (fun _ _ _ h => h) (Or.inl ⟨by rfl, fun W' hS' => by go_simp⟩) hS ?_
        simp only [Act.put, List.setIfInBounds_toArray, List.set_cons_zero, List.set_cons_succ]
        refine wpAnyH_take (i := 2) (v := .pointer (some ⟨b, off + k * 35, none⟩)) rfl (by kernel_rfl) (by kernel_rfl) (by kernel_rfl) (fun _ _ _ h => h) (Or.inl ⟨by rfl, fun W' hS' => by go_simp⟩) hS ?_
        simp only [Act.put, List.setIfInBounds_toArray, List.set_cons_zero, List.set_cons_succ]
        refine wpAnyH_take (i := 3) (v := .agg (x.cells (.slice D x.data.length dc)).toArray) rfl (by kernel_rfl) (by kernel_rfl) (by kernel_rfl) (fun _ _ _ h => h) (yieldsIf_load_mid (by rfl) 52 _ rfl _ _ rfl (Lk.cells x (.slice D x.data.length dc)) _ (fun W' hS' => rangeAt_below hrg (Below.mono hS' (Nat.le_refl _)) (Nat.lt_of_lt_of_le hbw HZ.out)) Tryd.underlying52 rfl (by rw [x.cells_len (.slice D x.data.length dc) hp]; exact linkInfo)) hS ?_
        simp only [Act.put, List.setIfInBounds_toArray, List.set_cons_zero, List.set_cons_succ]
        refine wpAnyH_take (i := 4) (v := .slice (some ⟨b2, off2, none⟩) n c2) rfl (by kernel_rfl) (by kernel_rfl) (by kernel_rfl) (fun _ _ _ h => h) (Or.inl ⟨by rfl, fun W' hS' => by go_simp⟩) hS ?_
        simp only [Act.put, List.setIfInBounds_toArray, List.set_cons_zero, List.set_cons_succ]
        refine wpAnyH_take (i := 5) (v := .int .i64 k) rfl (by kernel_rfl) (by kernel_rfl) (by kernel_rfl) (fun _ _ _ h => h) (Or.inl ⟨by rfl, fun W' hS' => by go_simp⟩) hS ?_
        simp only [Act.put, List.setIfInBounds_toArray, List.set_cons_zero, List.set_cons_succ]
        refine wpAnyH_take (i := 6) (v := .pointer (some ⟨b2, off2 + k * 35, none⟩)) rfl (by kernel_rfl) (by kernel_rfl) (by kernel_rfl) (fun _ _ _ h => h) (Or.inl ⟨by rfl, fun W' hS' => by go_simp⟩) hS ?_
        simp only [Act.put, List.setIfInBounds_toArray, List.set_cons_zero, List.set_cons_succ]
        refine wpAnyH_take (i := 7) (v := .agg (y.cells (.slice E y.data.length ec)).toArray) rfl (by kernel_rfl) (by kernel_rfl) (by kernel_rfl) (fun _ _ _ h => h) (yieldsIf_load_mid (by rfl) 52 _ rfl _ _ rfl (Lk.cells y (.slice E y.data.length ec)) _ (fun W' hS' => rangeAt_below hrg2 (Below.mono hS' (Nat.le_refl _)) (Nat.lt_of_lt_of_le hbw2 HZ.out)) Tryd.underlying52 rfl (by rw [y.cells_len (.slice E y.data.length ec) hp2]; exact linkInfo)) hS ?_
        simp only [Act.put, List.setIfInBounds_toArray, List.set_cons_zero, List.set_cons_succ]
        rw [← HCX.out, ← HCY.out]
        refine wpAnyH_ready (rs := [8]) (by kernel_rfl) (by simp) ?_
        refine AllReadyH.cons rfl (fun Kq hKq => ?_) AllReadyH.nil
        go_simp
        have hcall := r8SameLink_any x y D E x.data.length y.data.length dc ec rfl rfl hp hp2 _ ((HRD.out.below hS).more hS.size) ((HRE.out.below hS).more hS.size)
        rw [← HCX.out, ← HCY.out, ← HEQ.out] at hcall
        refine hcall.mono ?_
        rintro e Wa ⟨rfl, hba⟩
        have hSa := hS.trans (hba.mono hS.size)
        refine hKq.out _ _ hSa (fun _ => ?_)
        clear hKq Kq hba
        refine wpAnyH_take (i := 9) (v := .bool (!eq)) rfl (by kernel_rfl) (by kernel_rfl) (by kernel_rfl) (fun _ _ _ h => h) (Or.inl ⟨by rfl, fun W' hS' => by go_simp⟩) hSa ?_
        simp only [Act.put, List.setIfInBounds_toArray, List.set_cons_zero, List.set_cons_succ]
        refine wpAnyH_done (by kernel_rfl) ?_ _
        have hBa : Below w.heap.size w Wa := hB.trans (hSa.mono HZ.out)
        cases eq with
        | false =>
          have hf : decide (l = m) = false := decide_eq_false fun e => by
            have h1 := HX.out
            rw [e, HY.out] at h1
            have h2 := HEQ.out.symm
            rw [HXY.out.2 (Option.some.inj h1).symm] at h2
            cases h2
          go_wp2
          go_ret
          exact ⟨by rw [hf]; rfl, hBa⟩
        | true =>
          have exy : x = y := HXY.out.1 HEQ.out.symm
          have HT := Lib.hid (take_next HX.out HY.out HALL.out exy)
          clear exy
          go_wp2
          go_roundw
          case rel => exact ⟨k + 1, by omega, by go_num, hBa, HT.out⟩
          case measure => simp [intOf]; omega
      · have hf : decide (l = m) = true := decide_eq_true (by
          have e : k = n := by omega
          have h := HALL.out
          rw [e] at h
          rw [HN.out, List.take_length, ← HN.out, HM.out, List.take_length] at h
          exact h)
        go_wp2
        go_ret
        exact ⟨by rw [hf]; rfl, hB⟩
/-- The first place where two lists part. -/
def diffAt (l m : List Lk) : Option Nat := (List.range (min l.length m.length)).find? (fun i => !eqLk (l.getD i lk0) (m.getD i lk0))
theorem diffAt_none {l m : List Lk} (h : ∀ k, k < min l.length m.length → l.getD k lk0 = m.getD k lk0) : diffAt l m = none := by
  refine List.find?_eq_none.2 fun k hk => ?_
  rw [List.mem_range] at hk
  rw [(eqLk_iff _ _).2 (h k hk)]
  decide
theorem diffAt_some {l m : List Lk} {k : Nat} (hk : k < min l.length m.length) (h : ∀ j, j < k → l.getD j lk0 = m.getD j lk0) (hne : l.getD k lk0 ≠ m.getD k lk0) : diffAt l m = some k := by
  refine List.find?_range_eq_some.2 ⟨?_, List.mem_range.2 hk, fun j hj => ?_⟩
  · rw [Bool.eq_false_iff.2 fun e => hne ((eqLk_iff _ _).1 e)]
    rfl
  · rw [(eqLk_iff _ _).2 (h j hj)]
    rfl
def DiffInv (w : World) (l m : List Lk) (i : Value) (wr : World) : Prop := ∃ k : Nat, k ≤ min l.length m.length ∧ i = .int .i64 k ∧ Below w.heap.size w wr ∧ ∀ j, j < k → l.getD j lk0 = m.getD j lk0
def diffVal : Option Nat → Value
  | none => .tuple #[.int .i64 0, .bool false]
  | some k => .tuple #[.int .i64 k, .bool true]
set_option maxRecDepth 100000 in
set_option linter.unusedSimpArgs false in
set_option linter.unusedVariables false in
set_option maxHeartbeats 4000000 in
theorem differ_any (A B : Option Addr) (l m : List Lk) (n n2 c c2 : Nat) (hn : n = l.length) (hm : n2 = m.length) (hnc : n ≤ c) (hnc2 : n2 ≤ c2) (hcc : c ≤ 9223372036854775807) (hcc2 : c2 ≤ 9223372036854775807) (w : World) (hA : LRd w w.heap.size A l) (hB : LRd w w.heap.size B m) :
    Calls Tryd.prog 80 #[.slice A n c, .slice B n2 c2, .func (.func 81) #[] #[]] w (Ret (diffVal (diffAt l m)) w) := by
  have HA := Lib.hid hA
  have HB := Lib.hid hB
  have HN := Lib.hid hn
  have HM := Lib.hid hm
  obtain ⟨p, hp⟩ : ∃ p, p = min n n2 := ⟨_, rfl⟩
  have hmin : (min (n : Int) (n2 : Int)) = (p : Nat) := by rw [hp]; omega
  have hpn : p ≤ n := by omega
  have hpn2 : p ≤ n2 := by omega
  have HP := Lib.hid (show p = min l.length m.length by rw [hp, hn, hm])
  clear hA hB hn hm
  by_cases hq : n2 < n
  · obtain rfl : p = n2 := by omega
    clear hp hpn2 hmin
    go_enter Tryd.func80, Tryd.ntmps80
    go_wp2_with fail
    go_loopw [8, 14] (fun _ i wr => DiffInv w l m i wr) (fun _ i _ => p - (intOf i).toNat)
    case atStart => exact ⟨0, Nat.zero_le _, rfl, Below.refl _ _, fun j h => absurd h (Nat.not_lt_zero _)⟩
    case round =>
      obtain ⟨k, hk, rfl, hB, hall⟩ := hrel
      rw [← HP.out] at hk
      have HALL := Lib.hid hall
      clear hall
      by_cases hlt : k < p
      · have hkn : k < n := by omega
        have hkp : k < p := by omega
        obtain ⟨x, hx⟩ : ∃ x, l[k]? = some x := ⟨_, List.getElem?_eq_getElem (by rw [← HN.out]; omega)⟩
        obtain ⟨y, hy⟩ : ∃ y, m[k]? = some y := ⟨_, List.getElem?_eq_getElem (by rw [← HM.out]; omega)⟩
        obtain ⟨b, off, rfl, hbw, hp, D, dc, hrg, hdc, hdc2, hrd⟩ := (HA.out.below hB).at_ hx
        obtain ⟨b2, off2, rfl, hbw2, hp2, E, ec, hrg2, hec, hec2, hre⟩ := (HB.out.below hB).at_ hy
        have hsz := hB.size
        obtain ⟨CX, hCX⟩ : ∃ c, c = (x.cells (.slice D x.data.length dc)).toArray := ⟨_, rfl⟩
        obtain ⟨CY, hCY⟩ : ∃ c, c = (y.cells (.slice E y.data.length ec)).toArray := ⟨_, rfl⟩
        have HCX := Lib.hid hCX
        have HCY := Lib.hid hCY
        have HX := Lib.hid hx
        have HY := Lib.hid hy
        have HRD := Lib.hid (hrd.more hsz)
        have HRE := Lib.hid (hre.more hsz)
        have HXY := Lib.hid (eqLk_iff x y)
        obtain ⟨eq, heq⟩ : ∃ eq, eq = eqLk x y := ⟨_, rfl⟩
        have HEQ := Lib.hid heq
        have HZ := Lib.hid hsz
        clear hx hy hrd hre hsz heq hCX hCY
        go_wp2_with fail
        refine wp_region_held_drew (S := fun W' => Below wr.heap.size wr W') (by kernel_rfl) (Below.refl _ _).drew (fun hS => ?_)
        refine wpAnyH_take (i := 0) (v := .func (.func 81) #[] #[]) rfl (by kernel_rfl) (by kernel_rfl) (by kernel_rfl) (fun _ _ _ h => h) (Or.inl ⟨by rfl, fun W' hS' => by go_simp⟩) hS ?_
        simp only [Act.put, List.setIfInBounds_toArray, List.set_cons_zero, List.set_cons_succ]
        refine wpAnyH_take (i := 1) (v := .slice (some ⟨b, off, none⟩) n c) rfl (by kernel_rfl) (by kernel_rfl) (by kernel_rfl) (fun _ _ _ h => h) (Or.inl ⟨by rfl, fun W' hS' => by go_simp⟩) hS ?_
        simp only [Act.put, List.setIfInBounds_toArray, List.set_cons_zero, List.set_cons_succ]
        refine wpAnyH_take (i := 2) (v := .int .i64 k) rfl (by kernel_rfl) (by kernel_rfl) (by kernel_rfl) (fun _ _ _ h => h) (Or.inl ⟨by rfl, fun W' hS' => by go_simp⟩) hS ?_
        simp only [Act.put, List.setIfInBounds_toArray, List.set_cons_zero, List.set_cons_succ]
        refine wpAnyH_take (i := 3) (v := .pointer (some ⟨b, off + k * 35, none⟩)) rfl (by kernel_rfl) (by kernel_rfl) (by kernel_rfl) (fun _ _ _ h => h) (Or.inl ⟨by rfl, fun W' hS' => by go_simp⟩) hS ?_
        simp only [Act.put, List.setIfInBounds_toArray, List.set_cons_zero, List.set_cons_succ]
        refine wpAnyH_take (i := 4) (v := .agg (x.cells (.slice D x.data.length dc)).toArray) rfl (by kernel_rfl) (by kernel_rfl) (by kernel_rfl) (fun _ _ _ h => h) (yieldsIf_load_mid (by rfl) 52 _ rfl _ _ rfl (Lk.cells x (.slice D x.data.length dc)) _ (fun W' hS' => rangeAt_below hrg (Below.mono hS' (Nat.le_refl _)) (Nat.lt_of_lt_of_le hbw HZ.out)) Tryd.underlying52 rfl (by rw [x.cells_len (.slice D x.data.length dc) hp]; exact linkInfo)) hS ?_
        simp only [Act.put, List.setIfInBounds_toArray, List.set_cons_zero, List.set_cons_succ]
        refine wpAnyH_take (i := 5) (v := .slice (some ⟨b2, off2, none⟩) p c2) rfl (by kernel_rfl) (by kernel_rfl) (by kernel_rfl) (fun _ _ _ h => h) (Or.inl ⟨by rfl, fun W' hS' => by go_simp⟩) hS ?_
        simp only [Act.put, List.setIfInBounds_toArray, List.set_cons_zero, List.set_cons_succ]
        refine wpAnyH_take (i := 6) (v := .int .i64 k) rfl (by kernel_rfl) (by kernel_rfl) (by kernel_rfl) (fun _ _ _ h => h) (Or.inl ⟨by rfl, fun W' hS' => by go_simp⟩) hS ?_
        simp only [Act.put, List.setIfInBounds_toArray, List.set_cons_zero, List.set_cons_succ]
        refine wpAnyH_take (i := 7) (v := .pointer (some ⟨b2, off2 + k * 35, none⟩)) rfl (by kernel_rfl) (by kernel_rfl) (by kernel_rfl) (fun _ _ _ h => h) (Or.inl ⟨by rfl, fun W' hS' => by go_simp⟩) hS ?_
        simp only [Act.put, List.setIfInBounds_toArray, List.set_cons_zero, List.set_cons_succ]
        refine wpAnyH_take (i := 8) (v := .agg (y.cells (.slice E y.data.length ec)).toArray) rfl (by kernel_rfl) (by kernel_rfl) (by kernel_rfl) (fun _ _ _ h => h) (yieldsIf_load_mid (by rfl) 52 _ rfl _ _ rfl (Lk.cells y (.slice E y.data.length ec)) _ (fun W' hS' => rangeAt_below hrg2 (Below.mono hS' (Nat.le_refl _)) (Nat.lt_of_lt_of_le hbw2 HZ.out)) Tryd.underlying52 rfl (by rw [y.cells_len (.slice E y.data.length ec) hp2]; exact linkInfo)) hS ?_
        simp only [Act.put, List.setIfInBounds_toArray, List.set_cons_zero, List.set_cons_succ]
        rw [← HCX.out, ← HCY.out]
        refine wpAnyH_ready (rs := [9]) (by kernel_rfl) (by simp) ?_
        refine AllReadyH.cons rfl (fun Kq hKq => ?_) AllReadyH.nil
        go_simp
        have hcall := cPart1_any x y D E x.data.length y.data.length dc ec rfl rfl hp hp2 _ ((HRD.out.below hS).more hS.size) ((HRE.out.below hS).more hS.size)
        rw [← HCX.out, ← HCY.out, ← HEQ.out] at hcall
        refine hcall.mono ?_
        rintro e Wa ⟨rfl, hba⟩
        have hSa := hS.trans (hba.mono hS.size)
        refine hKq.out _ _ hSa (fun _ => ?_)
        clear hKq Kq hba
        refine wpAnyH_take (i := 10) (v := .bool (!eq)) rfl (by kernel_rfl) (by kernel_rfl) (by kernel_rfl) (fun _ _ _ h => h) (Or.inl ⟨by rfl, fun W' hS' => by go_simp⟩) hSa ?_
        simp only [Act.put, List.setIfInBounds_toArray, List.set_cons_zero, List.set_cons_succ]
        refine wpAnyH_done (by kernel_rfl) ?_ _
        have hBa : Below w.heap.size w Wa := hB.trans (hSa.mono HZ.out)
        have HGX := Lib.hid (show l.getD k lk0 = x by rw [List.getD_eq_getElem?_getD, HX.out]; rfl)
        have HGY := Lib.hid (show m.getD k lk0 = y by rw [List.getD_eq_getElem?_getD, HY.out]; rfl)
        cases eq with
        | false =>
          have hf : diffAt l m = some k := diffAt_some (by rw [← HP.out]; exact hlt) HALL.out (by
            rw [HGX.out, HGY.out]
            intro e
            have h2 := HEQ.out.symm
            rw [HXY.out.2 e] at h2
            cases h2)
          go_wp2
          go_ret2
          exact ⟨by rw [hf]; rfl, hBa⟩
        | true =>
          have exy : x = y := HXY.out.1 HEQ.out.symm
          have HT : Hid (∀ j, j < k + 1 → l.getD j lk0 = m.getD j lk0) := Lib.hid (fun j hj => by
            rcases Nat.lt_or_ge j k with h | h
            · exact HALL.out j h
            · obtain rfl : j = k := by omega
              rw [HGX.out, HGY.out, exy])
          clear exy
          go_wp2
          go_roundw
          case rel => exact ⟨k + 1, by rw [← HP.out]; omega, by go_num, hBa, HT.out⟩
          case measure => simp [intOf]; omega
      · have hf : diffAt l m = none := diffAt_none (fun j hj => HALL.out j (by have := HP.out; omega))
        go_wp2
        go_ret2
        exact ⟨by rw [hf]; rfl, hB⟩
  · obtain rfl : p = n := by omega
    clear hp hpn hmin
    go_enter Tryd.func80, Tryd.ntmps80
    go_wp2_with fail
    go_loopw [8, 14] (fun _ i wr => DiffInv w l m i wr) (fun _ i _ => p - (intOf i).toNat)
    case atStart => exact ⟨0, Nat.zero_le _, rfl, Below.refl _ _, fun j h => absurd h (Nat.not_lt_zero _)⟩
    case round =>
      obtain ⟨k, hk, rfl, hB, hall⟩ := hrel
      rw [← HP.out] at hk
      have HALL := Lib.hid hall
      clear hall
      by_cases hlt : k < p
      · have hkn : k < p := by omega
        have hkn2 : k < n2 := by omega
        obtain ⟨x, hx⟩ : ∃ x, l[k]? = some x := ⟨_, List.getElem?_eq_getElem (by rw [← HN.out]; omega)⟩
        obtain ⟨y, hy⟩ : ∃ y, m[k]? = some y := ⟨_, List.getElem?_eq_getElem (by rw [← HM.out]; omega)⟩
        obtain ⟨b, off, rfl, hbw, hp, D, dc, hrg, hdc, hdc2, hrd⟩ := (HA.out.below hB).at_ hx
        obtain ⟨b2, off2, rfl, hbw2, hp2, E, ec, hrg2, hec, hec2, hre⟩ := (HB.out.below hB).at_ hy
        have hsz := hB.size
        obtain ⟨CX, hCX⟩ : ∃ c, c = (x.cells (.slice D x.data.length dc)).toArray := ⟨_, rfl⟩
        obtain ⟨CY, hCY⟩ : ∃ c, c = (y.cells (.slice E y.data.length ec)).toArray := ⟨_, rfl⟩
        have HCX := Lib.hid hCX
        have HCY := Lib.hid hCY
        have HX := Lib.hid hx
        have HY := Lib.hid hy
        have HRD := Lib.hid (hrd.more hsz)
        have HRE := Lib.hid (hre.more hsz)
        have HXY := Lib.hid (eqLk_iff x y)
        obtain ⟨eq, heq⟩ : ∃ eq, eq = eqLk x y := ⟨_, rfl⟩
        have HEQ := Lib.hid heq
        have HZ := Lib.hid hsz
        clear hx hy hrd hre hsz heq hCX hCY
        go_wp2_with fail
        refine wp_region_held_drew (S := fun W' => Below wr.heap.size wr W') (by kernel_rfl) (Below.refl _ _).drew (fun hS => ?_)
        refine wpAnyH_take (i := 0) (v := .func (.func 81) #[] #[]) rfl (by kernel_rfl) (by kernel_rfl) (by kernel_rfl) (fun _ _ _ h => h) (Or.inl ⟨by rfl, fun W' hS' => by go_simp⟩) hS ?_
        simp only [Act.put, List.setIfInBounds_toArray, List.set_cons_zero, List.set_cons_succ]
        refine wpAnyH_take (i := 1) (v := .slice (some ⟨b, off, none⟩) p c) rfl (by kernel_rfl) (by kernel_rfl) (by kernel_rfl) (fun _ _ _ h => h) (Or.inl ⟨by rfl, fun W' hS' => by go_simp⟩) hS ?_
        simp only [Act.put, List.setIfInBounds_toArray, List.set_cons_zero, List.set_cons_succ]
        refine wpAnyH_take (i := 2) (v := .int .i64 k) rfl (by kernel_rfl) (by kernel_rfl) (by kernel_rfl) (fun _ _ _ h => h) (Or.inl ⟨by rfl, fun W' hS' => by go_simp⟩) hS ?_
        simp only [Act.put, List.setIfInBounds_toArray, List.set_cons_zero, List.set_cons_succ]
        refine wpAnyH_take (i := 3) (v := .pointer (some ⟨b, off + k * 35, none⟩)) rfl (by kernel_rfl) (by kernel_rfl) (by kernel_rfl) (fun _ _ _ h => h) (Or.inl ⟨by rfl, fun W' hS' => by go_simp⟩) hS ?_
        simp only [Act.put, List.setIfInBounds_toArray, List.set_cons_zero, List.set_cons_succ]
        refine wpAnyH_take (i := 4) (v := .agg (x.cells (.slice D x.data.length dc)).toArray) rfl (by kernel_rfl) (by kernel_rfl) (by kernel_rfl) (fun _ _ _ h => h) (yieldsIf_load_mid (by rfl) 52 _ rfl _ _ rfl (Lk.cells x (.slice D x.data.length dc)) _ (fun W' hS' => rangeAt_below hrg (Below.mono hS' (Nat.le_refl _)) (Nat.lt_of_lt_of_le hbw HZ.out)) Tryd.underlying52 rfl (by rw [x.cells_len (.slice D x.data.length dc) hp]; exact linkInfo)) hS ?_
        simp only [Act.put, List.setIfInBounds_toArray, List.set_cons_zero, List.set_cons_succ]
        refine wpAnyH_take (i := 5) (v := .slice (some ⟨b2, off2, none⟩) n2 c2) rfl (by kernel_rfl) (by kernel_rfl) (by kernel_rfl) (fun _ _ _ h => h) (Or.inl ⟨by rfl, fun W' hS' => by go_simp⟩) hS ?_
        simp only [Act.put, List.setIfInBounds_toArray, List.set_cons_zero, List.set_cons_succ]
        refine wpAnyH_take (i := 6) (v := .int .i64 k) rfl (by kernel_rfl) (by kernel_rfl) (by kernel_rfl) (fun _ _ _ h => h) (Or.inl ⟨by rfl, fun W' hS' => by go_simp⟩) hS ?_
        simp only [Act.put, List.setIfInBounds_toArray, List.set_cons_zero, List.set_cons_succ]
        refine wpAnyH_take (i := 7) (v := .pointer (some ⟨b2, off2 + k * 35, none⟩)) rfl (by kernel_rfl) (by kernel_rfl) (by kernel_rfl) (fun _ _ _ h => h) (Or.inl ⟨by rfl, fun W' hS' => by go_simp⟩) hS ?_
        simp only [Act.put, List.setIfInBounds_toArray, List.set_cons_zero, List.set_cons_succ]
        refine wpAnyH_take (i := 8) (v := .agg (y.cells (.slice E y.data.length ec)).toArray) rfl (by kernel_rfl) (by kernel_rfl) (by kernel_rfl) (fun _ _ _ h => h) (yieldsIf_load_mid (by rfl) 52 _ rfl _ _ rfl (Lk.cells y (.slice E y.data.length ec)) _ (fun W' hS' => rangeAt_below hrg2 (Below.mono hS' (Nat.le_refl _)) (Nat.lt_of_lt_of_le hbw2 HZ.out)) Tryd.underlying52 rfl (by rw [y.cells_len (.slice E y.data.length ec) hp2]; exact linkInfo)) hS ?_
        simp only [Act.put, List.setIfInBounds_toArray, List.set_cons_zero, List.set_cons_succ]
        rw [← HCX.out, ← HCY.out]
        refine wpAnyH_ready (rs := [9]) (by kernel_rfl) (by simp) ?_
        refine AllReadyH.cons rfl (fun Kq hKq => ?_) AllReadyH.nil
        go_simp
        have hcall := cPart1_any x y D E x.data.length y.data.length dc ec rfl rfl hp hp2 _ ((HRD.out.below hS).more hS.size) ((HRE.out.below hS).more hS.size)
        rw [← HCX.out, ← HCY.out, ← HEQ.out] at hcall
        refine hcall.mono ?_
        rintro e Wa ⟨rfl, hba⟩
        have hSa := hS.trans (hba.mono hS.size)
        refine hKq.out _ _ hSa (fun _ => ?_)
        clear hKq Kq hba
        refine wpAnyH_take (i := 10) (v := .bool (!eq)) rfl (by kernel_rfl) (by kernel_rfl) (by kernel_rfl) (fun _ _ _ h => h) (Or.inl ⟨by rfl, fun W' hS' => by go_simp⟩) hSa ?_
        simp only [Act.put, List.setIfInBounds_toArray, List.set_cons_zero, List.set_cons_succ]
        refine wpAnyH_done (by kernel_rfl) ?_ _
        have hBa : Below w.heap.size w Wa := hB.trans (hSa.mono HZ.out)
        have HGX := Lib.hid (show l.getD k lk0 = x by rw [List.getD_eq_getElem?_getD, HX.out]; rfl)
        have HGY := Lib.hid (show m.getD k lk0 = y by rw [List.getD_eq_getElem?_getD, HY.out]; rfl)
        cases eq with
        | false =>
          have hf : diffAt l m = some k := diffAt_some (by rw [← HP.out]; exact hlt) HALL.out (by
            rw [HGX.out, HGY.out]
            intro e
            have h2 := HEQ.out.symm
            rw [HXY.out.2 e] at h2
            cases h2)
          go_wp2
          go_ret2
          exact ⟨by rw [hf]; rfl, hBa⟩
        | true =>
          have exy : x = y := HXY.out.1 HEQ.out.symm
          have HT : Hid (∀ j, j < k + 1 → l.getD j lk0 = m.getD j lk0) := Lib.hid (fun j hj => by
            rcases Nat.lt_or_ge j k with h | h
            · exact HALL.out j h
            · obtain rfl : j = k := by omega
              rw [HGX.out, HGY.out, exy])
          clear exy
          go_wp2
          go_roundw
          case rel => exact ⟨k + 1, by rw [← HP.out]; omega, by go_num, hBa, HT.out⟩
          case measure => simp [intOf]; omega
      · have hf : diffAt l m = none := diffAt_none (fun j hj => HALL.out j (by have := HP.out; omega))
        go_wp2
        go_ret2
        exact ⟨by rw [hf]; rfl, hB⟩
end Go.Proofs.YtibnikokgbfcdaaDoor

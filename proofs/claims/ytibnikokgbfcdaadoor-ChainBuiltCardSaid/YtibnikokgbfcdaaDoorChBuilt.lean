/- The law podiumlaw08.ChainBuilt: for all nodes and lists of data she returns true. -/
import Derived.Test.YtibnikokgbfcdaaDoorChEq
import Derived.Test.YtibnikokgbfcdaaDoorOpenL
import Derived.IntWalk
namespace Go.Proofs.YtibnikokgbfcdaaDoor
open Go Go.RowKit

theorem BRd.at_ {w : World} {B : Nat} {A : Option Addr} {l : List (List UInt8)} (h : BRd w B A l) {k : Nat} {x : List UInt8} (hx : l[k]? = some x) : ∃ b off D c, A = some ⟨b, off, none⟩ ∧ b < B ∧ w.cell? ⟨b, off + k, none⟩ = some (.slice D x.length c) ∧ x.length ≤ c ∧ c ≤ 9223372036854775807 ∧ RdB w B D x ∧ (D = none → x.length = 0 ∧ c = 0) := by
  obtain ⟨b, off, e, hB, hc⟩ := h (by have := (List.getElem?_eq_some_iff.1 hx).1; omega)
  obtain ⟨D, c, h1, h2, h3, h4, h5⟩ := hc k x hx
  exact ⟨b, off, D, c, e, hB, h1, h2, h3, h4, h5⟩
theorem addL_get (l : List Lk) (node : Int) (d : List UInt8) : (addL l node d)[l.length]? = some ⟨node, l.length, headOf l, d⟩ := by
  rw [addL, List.getElem?_append_right (Nat.le_refl _), Nat.sub_self]
  rfl
theorem quiet_neq_dig {ops : Array Oper} {C : World → Prop} {Q : Act → Prop} {o : Oper} {rest : List Oper} {a : Act} (hw : Region.wanted o (yielded ops a.tmps) = true) (x y : Operand) (t : TypeId) (ho : o.op = .binOp .neq 23 x y t) (d e : List UInt8) (hd : d.length = 32) (he : e.length = 32)
    (hx : a.eval x = .agg (dig d)) (hy : a.eval y = .agg (dig e)) (h : wpQuiet Tryd.prog ops C Q rest (a.put o.dst (.bool (!decide (d = e))))) : wpQuiet Tryd.prog ops C Q (o :: rest) a :=
  BigFrame.wpQuiet_want hw fun K hK => ⟨_, fun w _ => by
    have hg : (eqGuard .neq 23 x y (.agg (dig d)) (.agg (dig e))).run Tryd.prog w = .ok () w := run_eqGuard_agg _ _ _ _ _ _ _ Tryd.eqGuardType23
    unfold Oper.quietAt execOp
    simp only [ho, hx, hy, hg, run_neq_dig d e hd he w, Sem.run_bind, Sem.run_pure, Result.andThen_ok]
    exact ⟨rfl, rfl⟩, hK _ h⟩
/-- What has been built. -/
def BuiltIn (w : World) (node : Int) (n : Nat) (v i : Value) (wr : World) : Prop :=
  ∃ (k : Nat) (X : Option Addr) (cx : Nat) (xs : List Lk), k ≤ n ∧ i = .int .i64 k ∧ v = .slice X k cx ∧ xs.length = k ∧ k ≤ cx ∧ cx ≤ 9223372036854775807 ∧ LRd wr wr.heap.size X xs ∧ chkOk xs ∧ (xs ≠ [] → (xs.getD 0 lk0).node = node) ∧ Below w.heap.size w wr
theorem addErr_ok {xs : List Lk} {node : Int} {dl : Nat} (h : chkOk xs) (hl : xs.length < 1024) (h0 : 0 ≤ node) (h1 : node < 24) (hn : xs ≠ [] → (xs.getD 0 lk0).node = node) (hd : dl ≤ 65536) : addErr xs node dl = 0 := by
  rw [addErr, chkOf_ok h (by omega), if_neg (by decide), if_neg, if_neg (by omega)]
  rintro (e | e | ⟨e, e2⟩ | e)
  · omega
  · omega
  · exact e2 (hn (fun e3 => by rw [e3] at e; exact absurd e (by decide)))
  · omega
set_option maxRecDepth 100000 in
set_option linter.unusedSimpArgs false in
set_option linter.unusedVariables false in
set_option maxHeartbeats 16000000 in
theorem chainBuilt_any (node : Int) (A : Option Addr) (l : List (List UInt8)) (c : Nat) (hc : l.length ≤ c) (hcc : c ≤ 9223372036854775807) (_hI : True) (w : World) (hL : Laid w) (hR : BRd w w.heap.size A l) :
    Calls Tryd.prog 10 #[.int .i64 node, .slice A l.length c] w (Ret (.bool true) w) := by
  have HS := Lib.hid (fun W h => sane08_ok W h)
  have HL := Lib.hid hL
  have HR := Lib.hid hR
  obtain ⟨n, hn⟩ : ∃ n, n = l.length := ⟨_, rfl⟩
  have HN := Lib.hid hn
  rw [← hn] at hc ⊢
  clear hL hR hn
  by_cases t1 : 12 < n
  · have g1 : decide ((12 : Int) < (n : Int)) = true := decide_eq_true (by omega)
    go_enter Tryd.func10, Tryd.ntmps10
    go_wp2_with fail
    refine (HS.out w HL.out).mono ?_
    rintro e w1 ⟨rfl, hb1⟩
    go_wp2_with (refine wpList_skip (by rfl) ?_)
    go_ret
    exact ⟨rfl, hb1⟩
  have g1 : decide ((12 : Int) < (n : Int)) = false := decide_eq_false (by omega)
  by_cases t2 : node < 0
  · have g2 : decide (node < 0) = true := decide_eq_true t2
    go_enter Tryd.func10, Tryd.ntmps10
    go_wp2_with fail
    refine (HS.out w HL.out).mono ?_
    rintro e w1 ⟨rfl, hb1⟩
    go_wp2_with (refine wpList_skip (by rfl) ?_)
    go_ret
    exact ⟨rfl, hb1⟩
  have g2 : decide (node < 0) = false := decide_eq_false t2
  by_cases t3 : 24 ≤ node
  · have g3 : decide (24 ≤ node) = true := decide_eq_true t3
    go_enter Tryd.func10, Tryd.ntmps10
    go_wp2_with fail
    refine (HS.out w HL.out).mono ?_
    rintro e w1 ⟨rfl, hb1⟩
    go_wp2_with (refine wpList_skip (by rfl) ?_)
    go_ret
    exact ⟨rfl, hb1⟩
  have g3 : decide (24 ≤ node) = false := decide_eq_false t3
  go_enter Tryd.func10, Tryd.ntmps10
  go_wp2_with fail
  refine (HS.out w HL.out).mono ?_
  rintro e w1 ⟨rfl, hb1⟩
  go_wp2_with (refine wpList_skip (by rfl) ?_)
  go_loopw [5, 6] (fun v i wr => BuiltIn w node n v i wr) (fun _ i _ => n - (intOf i).toNat)
  case atStart => exact ⟨0, none, 0, [], by omega, rfl, rfl, rfl, by omega, by omega, LRd.nil, chkOk_nil, fun h => absurd rfl h, hb1⟩
  case round =>
    clear hb1
    obtain ⟨k, X, cx, xs, hk, rfl, rfl, hxl, hcx, hcx2, hX, hok, hnode, hB⟩ := hrel
    have HX := Lib.hid hX
    have HOK := Lib.hid hok
    have HNODE := Lib.hid hnode
    have HXL := Lib.hid hxl
    clear hX hok hnode hxl
    by_cases hlt : k < n
    · obtain ⟨d, hd⟩ : ∃ d, l[k]? = some d := ⟨_, List.getElem?_eq_getElem (by rw [← HN.out]; exact hlt)⟩
      obtain ⟨b, off, D, dc, rfl, hbw, hcd, hdc, hdc2, hrd, hDn⟩ := (HR.out.below hB).at_ hd
      obtain ⟨dn, hdn⟩ : ∃ dn, dn = d.length := ⟨_, rfl⟩
      have HDN := Lib.hid hdn
      rw [← hdn] at hcd hdc hDn
      have HRD := Lib.hid (Rd.more hrd hB.size)
      clear hd hdn hrd
      by_cases t4 : 300 < dn
      · have g4 : decide ((300 : Int) < (dn : Int)) = true := decide_eq_true (by omega)
        go_wp2_with fail
        go_ret
        exact ⟨rfl, hB⟩
      · have g4 : decide ((300 : Int) < (dn : Int)) = false := decide_eq_false (by omega)
        have HAD := Lib.hid (add_ok X D xs node d k cx dn dc (k + 1) HXL.out.symm rfl hcx hcx2 HDN.out (by omega) hDn wr (HL.out.below hB) HX.out HRD.out (few_data HOK.out) (addErr_ok HOK.out (by rw [HXL.out]; omega) (by omega) (by omega) HNODE.out (by rw [← HDN.out]; omega)))
        go_wp2_with fail
        refine HAD.out.mono ?_
        rintro e w2 ⟨Y, cy, rfl, hcy, hcy2, hY, hb2⟩
        have hBd0 := hB.trans (hb2.mono hB.size)
        have hX2 := HX.out.later hb2
        have hyk : (addL xs node d)[k]? = some ⟨node, (k : Nat), headOf xs, d⟩ := by
          have h := addL_get xs node d
          rw [HXL.out] at h
          exact h
        obtain ⟨bY, oY, rfl, hbY, hpY, D3, c3, hrg, -, -, hr3⟩ := hY.at_ hyk
        have hr3' : RdB w2 w2.heap.size D3 d := hr3
        rw [show (⟨node, (k : Nat), headOf xs, d⟩ : Lk).data.length = dn from HDN.out.symm] at hrg
        have hlen2 : (addL xs node d).length = k + 1 := by rw [addL_length, HXL.out]
        have HS1 := Lib.hid (fun (i : Ext w2) => (show Calls Tryd.prog 43 #[.slice (some ⟨bY, oY, none⟩) k cy, .slice X k cx] i.W (Ret (.bool true) i.W) from by
          have h := r8Same_any (some ⟨bY, oY, none⟩) X ((addL xs node d).take k) xs k k cy cx (by rw [List.length_take, hlen2]; omega) HXL.out.symm (by omega) hcx hcy2 hcx2 i.W ((hY.later i.below).take k) (hX2.later i.below)
          rw [decide_eq_true (by rw [addL_take xs node d (by rw [HXL.out]; exact Nat.le_refl _), ← HXL.out, List.take_length])] at h
          exact h))
        obtain ⟨HD, hHD⟩ : ∃ T, T = headOf xs := ⟨_, rfl⟩
        have hHl : HD.length = 32 := by rw [hHD]; exact headOf_length _
        have HH := Lib.hid (fun (i : Ext w2) => (show Calls Tryd.prog 44 #[.slice X k cx] i.W (Ret (.agg (dig HD)) i.W) from by
          rw [hHD]
          exact head_any X xs k cx HXL.out.symm (by omega) (chk_fine HOK.out (by rw [HXL.out]; omega)) i.W (HL.out.below (hBd0.trans (i.below.mono hBd0.size))) (hX2.later i.below)))
        have hrP := sub_prev hrg hpY
        rw [show (⟨node, (k : Nat), headOf xs, d⟩ : Lk).prev = HD from hHD.symm] at hrP
        have HRP := Lib.hid hrP
        have k0 : ∀ i : Ext w2, i.W.cell? ⟨bY, oY + k * 35, none⟩ = some (.int .i64 node) := Ext.cell (hrg 0 _ rfl)
        have k1 : ∀ i : Ext w2, i.W.cell? ⟨bY, oY + k * 35 + 1, none⟩ = some (.int .i64 (k : Nat)) := Ext.cell (hrg 1 _ rfl)
        have k34 : ∀ i : Ext w2, i.W.cell? ⟨bY, oY + k * 35 + 34, none⟩ = some (.slice D3 dn c3) := Ext.cell (hrg 34 _ (Lk.at_data ⟨node, (k : Nat), headOf xs, d⟩ _ hpY))
        have kl : ∀ i : Ext w2, i.W.cell? ⟨b, off + k, none⟩ = some (.slice D dn dc) := Ext.cell ((hb2.cell (p := ⟨b, off + k, none⟩) (Nat.lt_of_lt_of_le hbw hB.size)).trans hcd)
        have q1 : ∀ i : Ext w2, (convert 39 9 (.slice D3 dn c3)).run Tryd.prog i.W = .ok (.string ⟨d.toArray⟩) i.W := fun i => by rw [HDN.out]; exact run_str (Rd.below hr3' i.below)
        have q2 : ∀ i : Ext w2, (convert 39 9 (.slice D dn dc)).run Tryd.prog i.W = .ok (.string ⟨d.toArray⟩) i.W := fun i => by rw [HDN.out]; exact run_str (Rd.below ((HRD.out.below hb2).more hb2.size) i.below)
        have hs1 := fun W => slice_upto_links W (some ⟨bY, oY, none⟩) (k + 1) cy k (by omega) hcy
        have hwr : IntKind.i64.wrap ((k : Int) + 1) = (k : Int) + 1 := IntWalk.i64_in _ (by omega)
        have HY := Lib.hid hY
        have HOK2 := Lib.hid (chkOk_add (node := node) (d := d) HOK.out (by omega) (by omega) HNODE.out (by rw [← HDN.out]; omega))
        have HND2 := Lib.hid (show (addL xs node d ≠ [] → ((addL xs node d).getD 0 lk0).node = node) from fun _ => by
          rcases Nat.eq_zero_or_pos xs.length with h | h
          · obtain rfl := List.eq_nil_of_length_eq_zero h
            rfl
          · rw [addL, getD_append_left h]
            exact HNODE.out (fun e => by rw [e] at h; exact absurd h (by decide)))
        have HLEN := Lib.hid hlen2
        clear hY hyk hrg hr3 hr3' hrP hpY hX2 hlen2 hHD hb2 hB hcd
        go_wp2_with fail
        refine wp_region_quiet_ext (by kernel_rfl) (by kernel_rfl) ?_
        repeat (first
          | (go_big_quiet_want; refine quiet_load_dig _ rfl bY (oY + k * 35 + 2) rfl HD hHl (Ext.range HRP.out) ?_; simp only [Act.put, List.setIfInBounds_toArray, List.set_cons_zero, List.set_cons_succ]; go_big_quiet_on)
          | (refine quiet_neq_dig (by rfl) _ _ _ rfl HD HD hHl hHl rfl rfl ?_; simp only [Act.put, List.setIfInBounds_toArray, List.set_cons_zero, List.set_cons_succ, decide_true, Bool.not_true])
          | go_big_quiet_step (first | (go_at_call 43; with_reducible exact Ext.call (HS1.out _)) | (go_at_call 44; with_reducible exact Ext.call (HH.out _))))
        refine wpQuiet_nil ?_
        rintro Wd ⟨⟨_, hWd⟩, rfl⟩
        have hBd := hBd0.trans (hWd.mono hBd0.size)
        have HYD := Lib.hid (HY.out.later hWd)
        clear k0 k1 k34 kl q1 q2 hs1 hwr hWd hBd0
        go_wp2
        go_roundw
        case rel => exact ⟨k + 1, some ⟨bY, oY, none⟩, cy, addL xs node d, by omega, by go_num, rfl, HLEN.out, hcy, hcy2, HYD.out, HOK2.out, HND2.out, hBd⟩
        case measure => simp [intOf]; omega
    · obtain rfl : k = n := by omega
      have HB := Lib.hid hB
      clear hB
      go_wp2_with fail
      go_loopw [9] (fun i wr => ∃ j : Nat, j ≤ k + 1 ∧ i = .int .i64 j ∧ LRd wr wr.heap.size X xs ∧ Below w.heap.size w wr) (fun i _ => k + 1 - (intOf i).toNat)
      case atStart => exact ⟨0, by omega, rfl, HX.out, HB.out⟩
      case round =>
        clear HX HB
        obtain ⟨j, hj, rfl, hX, hB⟩ := hrel
        have HX := Lib.hid hX
        clear hX
        by_cases hle : j ≤ k
        · have hC := check_any X (xs.take j) j cx (by rw [List.length_take, HXL.out]; omega) (by omega) (by omega) _ (HL.out.below hB) (HX.out.take j) (few_data (chkOk_take HOK.out j))
          rw [chkOf_ok (chkOk_take HOK.out j) (by rw [List.length_take, HXL.out]; omega)] at hC
          have HC := Lib.hid hC
          clear hC
          go_wp2_with (rw [slice_upto_links _ X k cx j (by omega) (by omega)]; simp only [Sem.run_pure, Result.andThen_ok])
          refine HC.out.mono ?_
          rintro e w2 ⟨rfl, hb2⟩
          have hB2 := hB.trans (hb2.mono hB.size)
          have HX2 := Lib.hid (HX.out.later hb2)
          clear hB hb2
          go_wp2
          go_roundw
          case rel => exact ⟨j + 1, by omega, by go_num, HX2.out, hB2⟩
          case measure => simp [intOf]; omega
        · go_wp2_with fail
          go_ret
          exact ⟨rfl, hB⟩
end Go.Proofs.YtibnikokgbfcdaaDoor

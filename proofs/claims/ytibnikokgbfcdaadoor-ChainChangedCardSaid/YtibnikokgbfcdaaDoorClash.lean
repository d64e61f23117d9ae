/- Walk: podiumlaw08.clash. -/
import Derived.Test.YtibnikokgbfcdaaDoorChAdd
namespace Go.Proofs.YtibnikokgbfcdaaDoor
open Go Go.RowKit

section
variable {ops : Array Oper} {rest : List Oper} {o : Oper} {a : Act} {Q : Exit → Act → World → Prop}
theorem eql_dig_g (hw : Region.wanted o (yielded ops a.tmps) = true) (x y : Operand) (t : TypeId) (ho : o.op = .binOp .eql 23 x y t) {w : World} (d e : List UInt8) (hd : d.length = 32) (he : e.length = 32)
    (hx : a.eval x = .agg (dig d)) (hy : a.eval y = .agg (dig e)) (h : wpList Tryd.prog ops Q rest (a.put o.dst (.bool (decide (d = e)))) w) : wpList Tryd.prog ops Q (o :: rest) a w := by
  have hg : (eqGuard .eql 23 x y (.agg (dig d)) (.agg (dig e))).run Tryd.prog w = .ok () w := run_eqGuard_agg _ _ _ _ _ _ _ Tryd.eqGuardType23
  unfold wpList
  rw [if_pos hw]
  refine .inl ?_
  unfold Oper.wp execOp
  simp only [ho, hx, hy, hg, run_eql_dig d e hd he w, Sem.run_bind, Sem.run_pure, Result.andThen_ok]
  exact h
theorem neq_dig_g (hw : Region.wanted o (yielded ops a.tmps) = true) (x y : Operand) (t : TypeId) (ho : o.op = .binOp .neq 23 x y t) {w : World} (d e : List UInt8) (hd : d.length = 32) (he : e.length = 32)
    (hx : a.eval x = .agg (dig d)) (hy : a.eval y = .agg (dig e)) (h : wpList Tryd.prog ops Q rest (a.put o.dst (.bool (!decide (d = e)))) w) : wpList Tryd.prog ops Q (o :: rest) a w := by
  have hg : (eqGuard .neq 23 x y (.agg (dig d)) (.agg (dig e))).run Tryd.prog w = .ok () w := run_eqGuard_agg _ _ _ _ _ _ _ Tryd.eqGuardType23
  unfold wpList
  rw [if_pos hw]
  refine .inl ?_
  unfold Oper.wp execOp
  simp only [ho, hx, hy, hg, run_neq_dig d e hd he w, Sem.run_bind, Sem.run_pure, Result.andThen_ok]
  exact h
end
def TextLink (TX : List UInt8) (w : World) (e : Ending) (w' : World) : Prop :=
  ∃ A k c, e = .returned (.tuple #[.string ⟨#[108, 105, 110, 107]⟩, .slice A k c]) ∧ k = TX.length ∧ RdB w' w'.heap.size A TX ∧ Below w.heap.size w w'
theorem textOf_link {l : List Lk} (h : 0 < l.length) : (textOf l).1 = linkTag := by
  unfold textOf
  split
  · rename_i e
    rw [List.getLast?_eq_none_iff] at e
    subst e
    cases h
  · rfl
theorem text_link (A : Option Addr) (l : List Lk) (n c : Nat) (hn : n = l.length) (h0 : 0 < n) (hn2 : n ≤ 1000000) (hf : ∀ x, l.getLast? = some x → x.fine) (w : World) (hR : LRd w w.heap.size A l) :
    Calls Tryd.prog 87 #[.slice A n c] w (TextLink (textOf l).2 w) :=
  (r8Text_any A l n c hn hn2 hf w hR).mono fun e w' ⟨B, k, c', h1, h2, _, h4, h5⟩ => ⟨B, k, c', by rw [h1, textOf_link (by omega)]; rfl, h2, h4, h5⟩
set_option maxRecDepth 100000 in
set_option linter.unusedSimpArgs false in
set_option linter.unusedVariables false in
set_option maxHeartbeats 8000000 in
theorem clash_any (A B : Option Addr) (l m : List Lk) (n n2 c c2 : Nat) (hn : n = l.length) (hm : n2 = m.length) (h0 : 0 < n) (h1 : 0 < n2) (hle : n ≤ 1000000) (hle2 : n2 ≤ 1000000) (hf : ∀ x, l.getLast? = some x → x.fine) (hf2 : ∀ x, m.getLast? = some x → x.fine) (w : World) (hL : Laid w) (hA : LRd w w.heap.size A l) (hB : LRd w w.heap.size B m) :
    Calls Tryd.prog 46 #[.slice A n c, .slice B n2 c2] w (Ret (.bool (clashOf l m)) w) := by
  have HT1 := Lib.hid (text_link A l n c hn h0 hle hf w hA)
  have HT2 := Lib.hid (fun W (hb : Below w.heap.size w W) => text_link B m n2 c2 hm h1 hle2 hf2 W (hB.later hb))
  have HH1 := Lib.hid (fun W (hb : Below w.heap.size w W) => head_any A l n c hn hle hf W (hL.below hb) (hA.later hb))
  have HH2 := Lib.hid (fun W (hb : Below w.heap.size w W) => head_any B m n2 c2 hm hle2 hf2 W (hL.below hb) (hB.later hb))
  have hcl : clashOf l m = (decide ((textOf l).2 ≠ (textOf m).2) && decide (headOf l = headOf m)) := by
    unfold clashOf
    congr 1
    rw [decide_eq_decide]
    have e1 := textOf_link (l := l) (by omega)
    have e2 := textOf_link (l := m) (by omega)
    constructor
    · intro h e
      exact h (Prod.ext (e1.trans e2.symm) e)
    · intro h e
      exact h (congrArg Prod.snd e)
  rw [hcl]
  have d1 := headOf_length l
  have d2 := headOf_length m
  obtain ⟨TX, hTX⟩ : ∃ T, T = (textOf l).2 := ⟨_, rfl⟩
  obtain ⟨TY, hTY⟩ : ∃ T, T = (textOf m).2 := ⟨_, rfl⟩
  obtain ⟨HX, hHX⟩ : ∃ T, T = headOf l := ⟨_, rfl⟩
  obtain ⟨HY, hHY⟩ : ∃ T, T = headOf m := ⟨_, rfl⟩
  rw [← hTX] at HT1
  rw [← hTY] at HT2
  rw [← hHX] at HH1 d1
  rw [← hHY] at HH2 d2
  rw [← hTX, ← hTY, ← hHX, ← hHY]
  obtain ⟨R, hR⟩ : ∃ R, R = (decide (TX ≠ TY) && decide (HX = HY)) := ⟨_, rfl⟩
  rw [← hR]
  have HR := Lib.hid hR
  clear hL hA hB hf hf2 hcl hTX hTY hHX hHY hR hn hm
  by_cases hT : TX = TY
  · have hres : R = false := by rw [HR.out, decide_eq_false (fun h => h hT)]; rfl
    have HRES := Lib.hid hres
    clear hres
    subst hT
    go_enter Tryd.func46, Tryd.ntmps46
    go_wp2_with fail
    refine HT1.out.mono ?_
    rintro e w1 ⟨A1, _, c1, rfl, rfl, hr1, hb1⟩
    go_wp2_with fail
    refine (HT2.out w1 hb1).mono ?_
    rintro e w2 ⟨A2, _, c2', rfl, rfl, hr2, hb2⟩
    have hB2 := hb1.trans (hb2.mono hb1.size)
    have hr3 := (Rd.below hr1 hb2).more hb2.size
    clear hb1 hb2 hr1
    go_wp2_with (first | (refine to_str_g (by rfl) _ rfl rfl rfl hr3 ?_) | (refine to_str_g (by rfl) _ rfl rfl rfl hr2 ?_) | (refine wpList_skip (by rfl) ?_))
    go_ret
    exact ⟨(by rw [HRES.out]; first | done | rfl), hB2⟩
  · have hres : R = decide (HX = HY) := by rw [HR.out, decide_eq_true hT]; rfl
    have HRES := Lib.hid hres
    clear hres
    go_enter Tryd.func46, Tryd.ntmps46
    go_wp2_with fail
    refine HT1.out.mono ?_
    rintro e w1 ⟨A1, _, c1, rfl, rfl, hr1, hb1⟩
    go_wp2_with fail
    refine (HT2.out w1 hb1).mono ?_
    rintro e w2 ⟨A2, _, c2', rfl, rfl, hr2, hb2⟩
    have hB2 := hb1.trans (hb2.mono hb1.size)
    have hr3 := (Rd.below hr1 hb2).more hb2.size
    clear hb1 hb2 hr1
    go_wp2_with (first | (refine to_str_g (by rfl) _ rfl rfl rfl hr3 ?_) | (refine to_str_g (by rfl) _ rfl rfl rfl hr2 ?_) | (refine wpList_skip (by rfl) ?_))
    refine (HH1.out w2 hB2).mono ?_
    rintro e w3 ⟨rfl, hb3⟩
    have hB3 := hB2.trans (hb3.mono hB2.size)
    clear hb3 hr2 hr3 hB2
    go_wp2_with fail
    refine (HH2.out w3 hB3).mono ?_
    rintro e w4 ⟨rfl, hb4⟩
    have hB4 := hB3.trans (hb4.mono hB3.size)
    clear hb4 hB3
    go_wp2_with (refine eql_dig_g (by rfl) _ _ _ rfl HX HY d1 d2 rfl rfl ?_)
    go_ret
    exact ⟨(by rw [HRES.out]; first | done | rfl), hB4⟩
end Go.Proofs.YtibnikokgbfcdaaDoor

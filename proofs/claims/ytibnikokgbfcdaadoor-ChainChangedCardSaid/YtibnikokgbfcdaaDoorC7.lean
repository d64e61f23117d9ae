/- Walk: chain.Part. -/
import Derived.Test.YtibnikokgbfcdaaDoorC5
namespace Go.Proofs.YtibnikokgbfcdaaDoor
open Go Go.RowKit

noncomputable def partOf (l m : List Lk) : Int × Bool × Int :=
  if chkOf l ≠ 0 then (0, false, chkOf l) else if chkOf m ≠ 0 then (0, false, chkOf m)
  else if 0 < l.length ∧ 0 < m.length ∧ (l.getD 0 lk0).node ≠ (m.getD 0 lk0).node then (0, false, 80)
  else match diffAt l m with
    | none => (0, false, 0)
    | some k => (k, true, 0)
def partVal (p : Int × Bool × Int) : Value := .tuple #[.int .i64 p.1, .bool p.2.1, .int .i64 p.2.2]
set_option maxRecDepth 100000 in
set_option linter.unusedSimpArgs false in
set_option linter.unusedVariables false in
set_option maxHeartbeats 4000000 in
theorem part_any (A B : Option Addr) (l m : List Lk) (n n2 c c2 : Nat) (hn : n = l.length) (hm : n2 = m.length) (hnc : n ≤ c) (hnc2 : n2 ≤ c2) (hcc : c ≤ 9223372036854775807) (hcc2 : c2 ≤ 9223372036854775807) (w : World) (hL : Laid w) (hA : LRd w w.heap.size A l) (hB : LRd w w.heap.size B m)
    (hd : ∀ y, y < l.length → (l.getD y lk0).data.length ≤ 4611686018427387903) (hd2 : ∀ y, y < m.length → (m.getD y lk0).data.length ≤ 4611686018427387903) :
    Calls Tryd.prog 41 #[.slice A n c, .slice B n2 c2] w (Ret (partVal (partOf l m)) w) := by
  have HC1 := Lib.hid (check_any A l n c hn (by omega) hnc w hL hA hd)
  have HC2 := Lib.hid (fun w1 (hb : Below w.heap.size w w1) => check_any B m n2 c2 hm (by omega) hnc2 w1 (hL.below hb) (hB.later hb) hd2)
  have HD := Lib.hid (fun w1 (hb : Below w.heap.size w w1) => differ_any A B l m n n2 c c2 hn hm hnc hnc2 hcc hcc2 w1 (hA.later hb) (hB.later hb))
  have HA := Lib.hid hA
  have HB := Lib.hid hB
  have HN := Lib.hid hn
  have HM := Lib.hid hm
  obtain ⟨R, hR⟩ : ∃ R, R = partVal (partOf l m) := ⟨_, rfl⟩
  rw [← hR]
  have HR := Lib.hid hR
  clear hL hA hB hd hd2 hn hm hR
  go_enter Tryd.func41, Tryd.ntmps41
  go_wp2_with fail
  refine HC1.out.mono ?_
  rintro e w1 ⟨rfl, hb1⟩
  obtain ⟨e1, he1⟩ : ∃ e1, e1 = chkOf l := ⟨_, rfl⟩
  rw [← he1]
  have HE1 := Lib.hid he1
  clear he1
  by_cases t1 : e1 = 0
  rotate_left
  · go_wp2
    go_ret3
    exact ⟨by rw [HR.out, partOf, ← HE1.out, if_pos t1]; rfl, hb1⟩
  · subst t1
    go_wp2_with fail
    refine (HC2.out w1 hb1).mono ?_
    rintro e w2 ⟨rfl, hb2⟩
    have hb := hb1.trans (hb2.mono hb1.size)
    obtain ⟨e2, he2⟩ : ∃ e2, e2 = chkOf m := ⟨_, rfl⟩
    rw [← he2]
    have HE2 := Lib.hid he2
    clear he2
    by_cases t2 : e2 = 0
    rotate_left
    · go_wp2
      go_ret3
      exact ⟨by rw [HR.out, partOf, ← HE1.out, if_neg (by decide), ← HE2.out, if_pos t2]; rfl, hb⟩
    · subst t2
      have HP : Hid (partOf l m = if 0 < l.length ∧ 0 < m.length ∧ (l.getD 0 lk0).node ≠ (m.getD 0 lk0).node then ((0 : Int), false, (80 : Int)) else match diffAt l m with
          | none => ((0 : Int), false, (0 : Int))
          | some k => ((k : Int), true, (0 : Int))) := Lib.hid (by rw [partOf, ← HE1.out, if_neg (by decide), ← HE2.out, if_neg (by decide)])
      clear HE1 HE2 hb2
      by_cases h0 : 0 < n
      rotate_left
      · obtain rfl : n = 0 := by omega
        have hne : ¬ (0 < l.length ∧ 0 < m.length ∧ (l.getD 0 lk0).node ≠ (m.getD 0 lk0).node) := fun h => by have := h.1; have := HN.out; omega
        have HNE := Lib.hid hne
        clear hne
        go_wp2_with fail
        go_quiet (fail)
        obtain ⟨dv, hdv⟩ : ∃ dv, dv = diffAt l m := ⟨_, rfl⟩
        have hbq := below_drewN hb nq
        have HDV := Lib.hid hdv
        have HBQ := Lib.hid hbq
        have HDC := HD.out (w2.drewN nq) hbq
        rw [← hdv] at HDC
        have HPV := Lib.hid (show partOf l m = _ from HP.out.trans (if_neg HNE.out))
        have HDC2 := Lib.hid HDC
        clear hdv hbq HDC
        go_wp2_with fail
        refine HDC2.out.mono ?_
        rintro e w3 ⟨rfl, hb3⟩
        have hb4 := HBQ.out.trans (hb3.mono HBQ.out.size)
        cases dv with
        | none =>
          simp only [diffVal]
          go_wp2
          go_ret3
          exact ⟨by rw [HR.out, HPV.out, ← HDV.out]; rfl, hb4⟩
        | some k =>
          simp only [diffVal]
          go_wp2
          go_ret3
          exact ⟨by rw [HR.out, HPV.out, ← HDV.out]; rfl, hb4⟩
      by_cases h1 : 0 < n2
      rotate_left
      · obtain rfl : n2 = 0 := by omega
        have hne : ¬ (0 < l.length ∧ 0 < m.length ∧ (l.getD 0 lk0).node ≠ (m.getD 0 lk0).node) := fun h => by have := h.2.1; have := HM.out; omega
        have HNE := Lib.hid hne
        clear hne
        have g0 : decide ((0 : Int) < (n : Int)) = true := decide_eq_true (by omega)
        go_wp2_with fail
        go_quiet (fail)
        obtain ⟨dv, hdv⟩ : ∃ dv, dv = diffAt l m := ⟨_, rfl⟩
        have hbq := below_drewN hb nq
        have HDV := Lib.hid hdv
        have HBQ := Lib.hid hbq
        have HDC := HD.out (w2.drewN nq) hbq
        rw [← hdv] at HDC
        have HPV := Lib.hid (show partOf l m = _ from HP.out.trans (if_neg HNE.out))
        have HDC2 := Lib.hid HDC
        clear hdv hbq HDC
        go_wp2_with fail
        refine HDC2.out.mono ?_
        rintro e w3 ⟨rfl, hb3⟩
        have hb4 := HBQ.out.trans (hb3.mono HBQ.out.size)
        cases dv with
        | none =>
          simp only [diffVal]
          go_wp2
          go_ret3
          exact ⟨by rw [HR.out, HPV.out, ← HDV.out]; rfl, hb4⟩
        | some k =>
          simp only [diffVal]
          go_wp2
          go_ret3
          exact ⟨by rw [HR.out, HPV.out, ← HDV.out]; rfl, hb4⟩
      have g0 : decide ((0 : Int) < (n : Int)) = true := decide_eq_true (by omega)
      have g1 : decide ((0 : Int) < (n2 : Int)) = true := decide_eq_true (by omega)
      obtain ⟨x, hx⟩ : ∃ x, l[0]? = some x := ⟨_, List.getElem?_eq_getElem (by rw [← HN.out]; exact h0)⟩
      obtain ⟨y, hy⟩ : ∃ y, m[0]? = some y := ⟨_, List.getElem?_eq_getElem (by rw [← HM.out]; exact h1)⟩
      obtain ⟨b, off, rfl, -, -, D, dc, hrg, -, -, -⟩ := (HA.out.below hb).at_ hx
      obtain ⟨b2, off2, rfl, -, -, E, ec, hrg2, -, -, -⟩ := (HB.out.below hb).at_ hy
      have k1 : w2.cell? ⟨b, off, none⟩ = some (.int .i64 x.node) := by have h := hrg 0 _ rfl; rw [Nat.zero_mul] at h; exact h
      have k2 : w2.cell? ⟨b2, off2, none⟩ = some (.int .i64 y.node) := by have h := hrg2 0 _ rfl; rw [Nat.zero_mul] at h; exact h
      have HX := Lib.hid (show (l.getD 0 lk0).node = x.node by rw [List.getD_eq_getElem?_getD, hx]; rfl)
      have HY := Lib.hid (show (m.getD 0 lk0).node = y.node by rw [List.getD_eq_getElem?_getD, hy]; rfl)
      obtain ⟨xn, hxn⟩ : ∃ z, z = x.node := ⟨_, rfl⟩
      obtain ⟨yn, hyn⟩ : ∃ z, z = y.node := ⟨_, rfl⟩
      rw [← hxn] at k1 HX
      rw [← hyn] at k2 HY
      clear hrg hrg2 hx hy hxn hyn
      by_cases hq : xn = yn
      · have hne : ¬ (0 < l.length ∧ 0 < m.length ∧ (l.getD 0 lk0).node ≠ (m.getD 0 lk0).node) := fun h => h.2.2 (by rw [HX.out, HY.out, hq])
        have b1 : (xn != yn) = false := by rw [hq]; simp
        have HNE := Lib.hid hne
        clear hne
        subst hq
        go_wp2_with fail
        go_quiet (fail)
        obtain ⟨dv, hdv⟩ : ∃ dv, dv = diffAt l m := ⟨_, rfl⟩
        have hbq := below_drewN hb nq
        have HDV := Lib.hid hdv
        have HBQ := Lib.hid hbq
        have HDC := HD.out (w2.drewN nq) hbq
        rw [← hdv] at HDC
        have HPV := Lib.hid (show partOf l m = _ from HP.out.trans (if_neg HNE.out))
        have HDC2 := Lib.hid HDC
        clear hdv hbq HDC
        go_wp2_with fail
        refine HDC2.out.mono ?_
        rintro e w3 ⟨rfl, hb3⟩
        have hb4 := HBQ.out.trans (hb3.mono HBQ.out.size)
        cases dv with
        | none =>
          simp only [diffVal]
          go_wp2
          go_ret3
          exact ⟨by rw [HR.out, HPV.out, ← HDV.out]; rfl, hb4⟩
        | some k =>
          simp only [diffVal]
          go_wp2
          go_ret3
          exact ⟨by rw [HR.out, HPV.out, ← HDV.out]; rfl, hb4⟩
      · have hne : 0 < l.length ∧ 0 < m.length ∧ (l.getD 0 lk0).node ≠ (m.getD 0 lk0).node := ⟨by rw [← HN.out]; exact h0, by rw [← HM.out]; exact h1, by rw [HX.out, HY.out]; exact hq⟩
        have b1 : (xn != yn) = true := by simpa using hq
        have HNE := Lib.hid hne
        clear hne
        go_wp2_with fail
        go_quiet (fail)
        go_wp2
        go_ret3
        exact ⟨by rw [HR.out, HP.out, if_pos HNE.out]; rfl, below_drewN hb nq⟩
end Go.Proofs.YtibnikokgbfcdaaDoor

/- Several texts in one: N21, N10. -/
import Derived.Test.YtkkcbkfpaoldmaaGreatDoorM01
import Derived.Test.YtkkcbkfpaoldmaaGreatDoorM10
import Derived.BigQuiet
import Derived.OrdersIn
import Derived.Test.YtkkcbkfpaoldmaaGreatDoorM06
/- Walk: the inner loops of nat.long. -/
namespace Go.Proofs.YtkkcbkfpaoldmaaGreatDoor
open Go Go.RowKit

/-- The block of a number within a code. -/
def blockOf (n : Nat) : Code → Option Code
  | .block m c => if m = n then some (.block m c) else blockOf n c
  | .loop c => blockOf n c
  | .seq a b => match blockOf n a with
    | some c => some c
    | none => blockOf n b
  | .scope c => blockOf n c
  | .cond _ a b => match blockOf n a with
    | some c => some c
    | none => blockOf n b
  | _ => none
noncomputable def longBlk (n : Nat) : Code := ((Tryz.f105.body.bind (blockOf n)).getD .skip)
set_option maxRecDepth 1000000 in
set_option linter.unusedSimpArgs false in
set_option linter.unusedVariables false in
set_option maxHeartbeats 8000000 in
theorem long_guess {Q : Exit → Act → World → Prop} (L v : List Int) (N i k Bu gu cu cv : Nat) (Av : Option Addr) (hd g0 : Int) (W0 : World) (c0 c1 c2 c3 c4 c5 c6 c13 c14 c15 c16 c17 c18 c19 c20 c21 c22 c23 c24 c25 c26 c27 c28 c29 c30 c31 c32 c33 c34 c35 c36 c37 c38 c39 c40 c41 c42 c43 c44 c45 c46 c47 c48 c49 c50 c51 c52 c53 c54 c55 c56 c57 c58 c59 c60 c61 c62 c63 c64 c65 c66 c67 c68 c69 c70 c71 c72 c73 c74 c75 c76 c77 c78 c79 c80 c81 c82 c83 c84 c85 c86 c87 c88 c89 c90 c91 c92 c93 c94 c95 c96 c97 c98 c99 c100 c101 c102 c103 c104 c105 c106 c107 c108 c109 c110 c111 c112 c113 c114 c115 c116 c117 c118 c119 c120 c121 c122 c123 c124 c125 c126 c127 c128 c129 c130 c131 c132 c133 c134 c135 c136 c137 c138 c139 c140 c141 c142 c143 c144 c145 c146 c147 c148 c149 c150 c151 c152 c153 c154 c155 c156 c157 c158 c159 c160 c161 c162 c163 c164 c165 c166 c167 c168 c169 c170 c171 c172 c173 c174 c175 c176 c177 c178 c179 c180 c181 c182 c183 c184 c185 c186 c187 c188 c189 c190 c191 c192 c193 c194 c195 c196 c197 c198 c199 c200 c201 c202 c203 c204 c205 c206 c207 c208 c209 c210 c211 c212 c213 c214 c215 c216 c217 c218 : Value)
    (h0 : RoundOk L v N i k) (hL : L.length = N) (hN : N ≤ 1000000) (hv : DivOk v k) (hh : hd = dg L (i + k) * 1073741824 + dg L (i + k - 1)) (hg : qdig L v i k ≤ g0 ∧ g0 ≤ hd / dg v (k - 1) ∧ g0 ≤ 1073741823 ∧ hd - g0 * dg v (k - 1) < 2147483648) (hO : IOwn W0 Bu (.slice (some ⟨gu, 0, none⟩) N cu) L) (hR : MRd W0 gu Av v)
    (hK : ∀ (g : Int) (u79 u80 u81 u82 u83 u84 u85 u86 u87 u88 u89 u90 u91 u92 u93 u94 u95 u96 u97 u98 u99 u100 u101 u102 u103 u104 u105 u106 u107 u108 u109 u110 u111 u112 u113 u114 u115 u116 u117 u118 : Value) (W : World), (qdig L v i k ≤ g ∧ g ≤ qdig L v i k + 1 ∧ g ≤ 1073741823) → IOwn W Bu (.slice (some ⟨gu, 0, none⟩) N cu) L → Only W0 W gu → Q .normal { tmps := #[c0, c1, c2, c3, c4, c5, c6, .slice Av k cv, .slice (some ⟨gu, 0, none⟩) N cu, .int .i64 k, .int .i64 i, .int .i64 hd, .int .i64 g, c13, c14, c15, c16, c17, c18, c19, c20, c21, c22, c23, c24, c25, c26, c27, c28, c29, c30, c31, c32, c33, c34, c35, c36, c37, c38, c39, c40, c41, c42, c43, c44, c45, c46, c47, c48, c49, c50, c51, c52, c53, c54, c55, c56, c57, c58, c59, c60, c61, c62, c63, c64, c65, c66, c67, c68, c69, c70, c71, c72, c73, c74, c75, c76, c77, c78, u79, u80, u81, u82, u83, u84, u85, u86, u87, u88, u89, u90, u91, u92, u93, u94, u95, u96, u97, u98, u99, u100, u101, u102, u103, u104, u105, u106, u107, u108, u109, u110, u111, u112, u113, u114, u115, u116, u117, u118, c119, c120, c121, c122, c123, c124, c125, c126, c127, c128, c129, c130, c131, c132, c133, c134, c135, c136, c137, c138, c139, c140, c141, c142, c143, c144, c145, c146, c147, c148, c149, c150, c151, c152, c153, c154, c155, c156, c157, c158, c159, c160, c161, c162, c163, c164, c165, c166, c167, c168, c169, c170, c171, c172, c173, c174, c175, c176, c177, c178, c179, c180, c181, c182, c183, c184, c185, c186, c187, c188, c189, c190, c191, c192, c193, c194, c195, c196, c197, c198, c199, c200, c201, c202, c203, c204, c205, c206, c207, c208, c209, c210, c211, c212, c213, c214, c215, c216, c217, c218], defers := [] } W) :
    Code.wp Tryz.prog (longBlk 2) Q { tmps := #[c0, c1, c2, c3, c4, c5, c6, .slice Av k cv, .slice (some ⟨gu, 0, none⟩) N cu, .int .i64 k, .int .i64 i, .int .i64 hd, .int .i64 g0, c13, c14, c15, c16, c17, c18, c19, c20, c21, c22, c23, c24, c25, c26, c27, c28, c29, c30, c31, c32, c33, c34, c35, c36, c37, c38, c39, c40, c41, c42, c43, c44, c45, c46, c47, c48, c49, c50, c51, c52, c53, c54, c55, c56, c57, c58, c59, c60, c61, c62, c63, c64, c65, c66, c67, c68, c69, c70, c71, c72, c73, c74, c75, c76, c77, c78, c79, c80, c81, c82, c83, c84, c85, c86, c87, c88, c89, c90, c91, c92, c93, c94, c95, c96, c97, c98, c99, c100, c101, c102, c103, c104, c105, c106, c107, c108, c109, c110, c111, c112, c113, c114, c115, c116, c117, c118, c119, c120, c121, c122, c123, c124, c125, c126, c127, c128, c129, c130, c131, c132, c133, c134, c135, c136, c137, c138, c139, c140, c141, c142, c143, c144, c145, c146, c147, c148, c149, c150, c151, c152, c153, c154, c155, c156, c157, c158, c159, c160, c161, c162, c163, c164, c165, c166, c167, c168, c169, c170, c171, c172, c173, c174, c175, c176, c177, c178, c179, c180, c181, c182, c183, c184, c185, c186, c187, c188, c189, c190, c191, c192, c193, c194, c195, c196, c197, c198, c199, c200, c201, c202, c203, c204, c205, c206, c207, c208, c209, c210, c211, c212, c213, c214, c215, c216, c217, c218], defers := [] } W0 := by
  obtain ⟨kk1, hkk1⟩ : ∃ x, x = k - 1 := ⟨_, rfl⟩
  obtain ⟨kk2, hkk2⟩ : ∃ x, x = k - 2 := ⟨_, rfl⟩
  obtain ⟨pk, hpk⟩ : ∃ x, x = i + k := ⟨_, rfl⟩
  obtain ⟨p2, hp2⟩ : ∃ x, x = i + k - 2 := ⟨_, rfl⟩
  have h2 := hv.two
  have hfit := h0.fit
  have e1 : (k : Int) - 1 = (kk1 : Int) := by omega
  have e2 : (k : Int) - 2 = (kk2 : Int) := by omega
  have e3 : (i : Int) + (k : Int) = (pk : Int) := by omega
  have e4 : (pk : Int) - 2 = (p2 : Int) := by omega
  have e1w : IntKind.i64.wrap (kk1 : Int) = (kk1 : Int) := Go.IntWalk.i64_in _ (by omega)
  have e2w : IntKind.i64.wrap (kk2 : Int) = (kk2 : Int) := Go.IntWalk.i64_in _ (by omega)
  have e3w : IntKind.i64.wrap (pk : Int) = (pk : Int) := Go.IntWalk.i64_in _ (by omega)
  have e4w : IntKind.i64.wrap (p2 : Int) = (p2 : Int) := Go.IntWalk.i64_in _ (by omega)
  have hp2N : p2 < N := by omega
  have hk1k : kk1 < k := by omega
  have hk2k : kk2 < k := by omega
  obtain ⟨x1, hx1⟩ : ∃ x, x = dg v kk1 := ⟨_, rfl⟩
  obtain ⟨x2, hx2⟩ : ∃ x, x = dg v kk2 := ⟨_, rfl⟩
  obtain ⟨u2, hu2⟩ : ∃ x, x = dg L p2 := ⟨_, rfl⟩
  obtain ⟨qd, hqd⟩ : ∃ x, x = qdig L v i k := ⟨_, rfl⟩
  have hr1 := hv.dig.digs k kk1 hk1k
  have hr2 := hv.dig.digs k kk2 hk2k
  have hru := h0.dig.digs N p2 hp2N
  have hq0 := (h0.guess hv).1
  have htop := hv.top
  have HDOWN := Lib.hid (fun g hg hc => RoundOk.down h0 hv (g := g) hg hc)
  have HSTOP := Lib.hid (fun g hg hc => RoundOk.stop h0 hv (g := g) hg hc)
  rw [← hh] at HDOWN HSTOP
  rw [← hkk1, ← hkk2, ← hp2, ← hx1, ← hx2, ← hu2, ← hqd] at HDOWN HSTOP
  rw [← hkk1, ← hx1] at hg htop
  rw [← hqd] at hg hq0
  rw [← hx1] at hr1
  rw [← hx2] at hr2
  rw [← hu2] at hru
  have HX1 := Lib.hid hx1
  have HX2 := Lib.hid hx2
  have HU2 := Lib.hid hu2
  have HL := Lib.hid hL
  have HV := Lib.hid hv.len
  have HR := Lib.hid hR
  have HO := Lib.hid hO
  have HG := Lib.hid hg
  have HKK := Lib.hid hK
  rw [← hqd] at HKK
  have hgs := World.ownsRow.lt hO gu rfl
  clear h0 hv hR hO hK hh hg hx1 hx2 hu2 hqd hkk1 hkk2 hpk hp2 hL
  conv => arg 2; whnf
  go_wp2_with fail
  go_loopw [12] (fun gg wr => ∃ (g : Int), gg = .int .i64 g ∧ (qd ≤ g ∧ g ≤ hd / x1 ∧ g ≤ 1073741823 ∧ hd - g * x1 < 2147483648) ∧ IOwn wr Bu (.slice (some ⟨gu, 0, none⟩) N cu) L ∧ Only W0 wr gu) (fun gg _ => (intOf gg).toNat)
  case atStart => exact ⟨g0, rfl, HG.out, HO.out, Only.refl _ _⟩
  case round =>
    clear HO HG
    obtain ⟨g, rfl, hg, hO, hBr⟩ := hrel
    have HO := Lib.hid hO
    have HBR := Lib.hid hBr
    have HG := Lib.hid hg
    clear hO hBr
    have cm := HO.out.cellAt HL.out hp2N
    rw [show L.getD p2 0 = u2 from HU2.out.symm] at cm
    obtain ⟨b, off, rfl, hbl, hc1⟩ := (Rd.only HR.out HBR.out (Nat.le_of_lt hgs.2) (Nat.le_refl _)).at_ (k := kk1) (by rw [HV.out]; exact hk1k)
    obtain ⟨b', off', e, -, hc2⟩ := (Rd.only HR.out HBR.out (Nat.le_of_lt hgs.2) (Nat.le_refl _)).at_ (k := kk2) (by rw [HV.out]; exact hk2k)
    simp only [Option.some.injEq, Addr.mk.injEq, and_true] at e
    obtain ⟨rfl, rfl⟩ := e
    rw [← HX1.out] at hc1
    rw [← HX2.out] at hc2
    have hb1 := mul_bounds ⟨(by omega : 0 ≤ g), (by omega : g < 1073741824)⟩ hr1
    have hb2 := mul_bounds ⟨(by omega : 0 ≤ g), (by omega : g < 1073741824)⟩ hr2
    have hrem : 0 ≤ hd - g * x1 := by
      have h3 : g * x1 ≤ hd / x1 * x1 := Int.mul_le_mul_of_nonneg_right hg.2.1 hr1.1
      have h4 := Int.ediv_mul_le hd (show x1 ≠ 0 by omega)
      omega
    obtain ⟨G1, hG1⟩ : ∃ x, x = g * x1 := ⟨_, rfl⟩
    obtain ⟨G2, hG2⟩ : ∃ x, x = g * x2 := ⟨_, rfl⟩
    have HD := Lib.hid (HDOWN.out g (by omega))
    have HS := Lib.hid (HSTOP.out g (by omega))
    rw [← hG1] at hb1 hrem hg HD HS
    rw [← hG2] at hb2 HD HS
    obtain ⟨R, hRR⟩ : ∃ x, x = hd - G1 := ⟨_, rfl⟩
    rw [← hRR] at hrem hg HD HS
    have hor := or_low R u2 (by omega) hru
    obtain ⟨D, hDD⟩ : ∃ x, x = R * 1073741824 + u2 := ⟨_, rfl⟩
    rw [← hDD] at hor HD HS
    have f1 : g * x1 = G1 := hG1.symm
    have f2 : g * x2 = G2 := hG2.symm
    have f3 : hd - G1 = R := hRR.symm
    have f1w : IntKind.i64.wrap G1 = G1 := Go.IntWalk.i64_in _ (by omega)
    have f2w : IntKind.i64.wrap G2 = G2 := Go.IntWalk.i64_in _ (by omega)
    have f3w : IntKind.i64.wrap R = R := Go.IntWalk.i64_in _ (by omega)
    have hsh : wrap64 (R * 1073741824) = R * 1073741824 := wrap_in _ (by omega)
    have hsh2 : IntKind.i64.wrap (R * 1073741824) = R * 1073741824 := Go.IntWalk.i64_in _ (by omega)
    have HG1 := Lib.hid hG1
    have HRR := Lib.hid hRR
    have HDD := Lib.hid hDD
    clear hG1 hG2 hRR hDD
    rcases Int.lt_or_le D G2 with h1 | h1
    · have g1 : decide (D < G2) = true := decide_eq_true h1
      rcases Int.lt_or_le 1073741823 R with h3 | h3
      · have g2 : decide (R ≤ 1073741823) = false := decide_eq_false (by omega)
        have HQ := Lib.hid (HS.out (Or.inr (by omega)))
        clear HDOWN HSTOP
        go_wp2_with fail
        go_quiet (fail)
        go_wp2_with fail
        exact HKK.out g _ _ _ _ _ _ _ _ _ _ _ _ _ _ _ _ _ _ _ _ _ _ _ _ _ _ _ _ _ _ _ _ _ _ _ _ _ _ _ _ _ ⟨HG.out.1, HQ.out, HG.out.2.2.1⟩ HO.out (HBR.out.drewN _)
      · have g2 : decide (R ≤ 1073741823) = true := decide_eq_true h3
        have HQ := Lib.hid (HD.out h1)
        clear HDOWN HSTOP HKK
        go_wp2_with fail
        go_quiet (fail)
        go_wp2_with fail
        go_roundw
        case rel =>
          have hq1 := HQ.out
          have hg1 := HG1.out
          refine ⟨g - 1, by go_num, ⟨HQ.out, by omega, by omega, ?_⟩, HO.out, HBR.out.drewN _⟩
          have e : (g - 1) * x1 = g * x1 - x1 := by grind
          omega
        case measure =>
          have hq1 := HQ.out
          simp [intOf]; omega
    · have g1 : decide (D < G2) = false := decide_eq_false (by omega)
      have HQ := Lib.hid (HS.out (Or.inl h1))
      clear HDOWN HSTOP
      go_wp2_with fail
      go_quiet (fail)
      go_wp2_with fail
      exact HKK.out g _ _ _ _ _ _ _ _ _ _ _ _ _ _ _ _ _ _ _ _ _ _ _ _ _ _ _ _ _ _ _ _ _ _ _ _ _ _ _ _ _ ⟨HG.out.1, HQ.out, HG.out.2.2.1⟩ HO.out (HBR.out.drewN _)
set_option maxRecDepth 1000000 in
set_option linter.unusedSimpArgs false in
set_option linter.unusedVariables false in
set_option maxHeartbeats 8000000 in
theorem long_owed {Q : Exit → Act → World → Prop} (L0 L0' v : List Int) (N i k Bu gu cu cv : Nat) (Av : Option Addr) (g T : Int) (W0 : World) (c0 c1 c2 c3 c4 c5 c6 c11 c14 c15 c16 c17 c18 c19 c20 c21 c22 c23 c24 c25 c26 c27 c28 c29 c30 c31 c32 c33 c34 c35 c36 c37 c38 c39 c40 c41 c42 c43 c44 c45 c46 c47 c48 c49 c50 c51 c52 c53 c54 c55 c56 c57 c58 c59 c60 c61 c62 c63 c64 c65 c66 c67 c68 c69 c70 c71 c72 c73 c74 c75 c76 c77 c78 c79 c80 c81 c82 c83 c84 c85 c86 c87 c88 c89 c90 c91 c92 c93 c94 c95 c96 c97 c98 c99 c100 c101 c102 c103 c104 c105 c106 c107 c108 c109 c110 c111 c112 c113 c114 c115 c116 c117 c118 c119 c122 c123 c124 c125 c126 c127 c128 c129 c130 c131 c132 c133 c134 c135 c136 c137 c138 c139 c140 c141 c142 c143 c144 c145 c146 c147 c148 c149 c150 c151 c152 c153 c154 c155 c156 c157 c158 c159 c160 c161 c162 c163 c164 c165 c166 c167 c168 c169 c170 c171 c172 c173 c174 c175 c176 c177 c178 c179 c180 c181 c182 c183 c184 c185 c186 c187 c188 c189 c190 c191 c192 c193 c194 c195 c196 c197 c198 c199 c200 c201 c202 c203 c204 c205 c206 c207 c208 c209 c210 c211 c212 c213 c214 c215 c216 c217 c218 : Value)
    (h0 : InOk L0 L0' v N i k g T 0 0) (hN : N ≤ 1000000) (hik : i + k < N) (hv : DivOk v k) (hg : 0 ≤ g ∧ g ≤ 1073741823) (hO : IOwn W0 Bu (.slice (some ⟨gu, 0, none⟩) N cu) L0') (hR : MRd W0 gu Av v)
    (hK : ∀ (o : Int) (L : List Int) (u14 u15 u121 u122 u123 u124 u125 u126 u127 u128 u129 u130 u131 u132 u133 u134 u135 u136 u137 u138 u139 u140 u141 u142 u143 u144 u145 u146 u147 u148 : Value) (W : World), InOk L0 L v N i k g T k o → (-1073741824 ≤ o ∧ o ≤ 0) → IOwn W Bu (.slice (some ⟨gu, 0, none⟩) N cu) L → Only W0 W gu → Q .normal { tmps := #[c0, c1, c2, c3, c4, c5, c6, .slice Av k cv, .slice (some ⟨gu, 0, none⟩) N cu, .int .i64 k, .int .i64 i, c11, .int .i64 g, .int .i64 o, u14, u15, c16, c17, c18, c19, c20, c21, c22, c23, c24, c25, c26, c27, c28, c29, c30, c31, c32, c33, c34, c35, c36, c37, c38, c39, c40, c41, c42, c43, c44, c45, c46, c47, c48, c49, c50, c51, c52, c53, c54, c55, c56, c57, c58, c59, c60, c61, c62, c63, c64, c65, c66, c67, c68, c69, c70, c71, c72, c73, c74, c75, c76, c77, c78, c79, c80, c81, c82, c83, c84, c85, c86, c87, c88, c89, c90, c91, c92, c93, c94, c95, c96, c97, c98, c99, c100, c101, c102, c103, c104, c105, c106, c107, c108, c109, c110, c111, c112, c113, c114, c115, c116, c117, c118, c119, .int .i64 k, u121, u122, u123, u124, u125, u126, u127, u128, u129, u130, u131, u132, u133, u134, u135, u136, u137, u138, u139, u140, u141, u142, u143, u144, u145, u146, u147, u148, c149, c150, c151, c152, c153, c154, c155, c156, c157, c158, c159, c160, c161, c162, c163, c164, c165, c166, c167, c168, c169, c170, c171, c172, c173, c174, c175, c176, c177, c178, c179, c180, c181, c182, c183, c184, c185, c186, c187, c188, c189, c190, c191, c192, c193, c194, c195, c196, c197, c198, c199, c200, c201, c202, c203, c204, c205, c206, c207, c208, c209, c210, c211, c212, c213, c214, c215, c216, c217, c218], defers := [] } W) :
    Code.wp Tryz.prog (longBlk 4) Q { tmps := #[c0, c1, c2, c3, c4, c5, c6, .slice Av k cv, .slice (some ⟨gu, 0, none⟩) N cu, .int .i64 k, .int .i64 i, c11, .int .i64 g, .int .i64 0, c14, c15, c16, c17, c18, c19, c20, c21, c22, c23, c24, c25, c26, c27, c28, c29, c30, c31, c32, c33, c34, c35, c36, c37, c38, c39, c40, c41, c42, c43, c44, c45, c46, c47, c48, c49, c50, c51, c52, c53, c54, c55, c56, c57, c58, c59, c60, c61, c62, c63, c64, c65, c66, c67, c68, c69, c70, c71, c72, c73, c74, c75, c76, c77, c78, c79, c80, c81, c82, c83, c84, c85, c86, c87, c88, c89, c90, c91, c92, c93, c94, c95, c96, c97, c98, c99, c100, c101, c102, c103, c104, c105, c106, c107, c108, c109, c110, c111, c112, c113, c114, c115, c116, c117, c118, c119, .int .i64 k, .int .i64 0, c122, c123, c124, c125, c126, c127, c128, c129, c130, c131, c132, c133, c134, c135, c136, c137, c138, c139, c140, c141, c142, c143, c144, c145, c146, c147, c148, c149, c150, c151, c152, c153, c154, c155, c156, c157, c158, c159, c160, c161, c162, c163, c164, c165, c166, c167, c168, c169, c170, c171, c172, c173, c174, c175, c176, c177, c178, c179, c180, c181, c182, c183, c184, c185, c186, c187, c188, c189, c190, c191, c192, c193, c194, c195, c196, c197, c198, c199, c200, c201, c202, c203, c204, c205, c206, c207, c208, c209, c210, c211, c212, c213, c214, c215, c216, c217, c218], defers := [] } W0 := by
  have H0 := Lib.hid h0
  have HV := Lib.hid hv
  have HR := Lib.hid hR
  have HO := Lib.hid hO
  have HKK := Lib.hid hK
  have hgs := World.ownsRow.lt hO gu rfl
  clear h0 hv hR hO hK
  conv => arg 2; whnf
  go_wp2_with fail
  go_loopw [121, 13] (fun jj oo wr => ∃ (j : Nat) (o : Int) (L : List Int), j ≤ k ∧ jj = .int .i64 j ∧ oo = .int .i64 o ∧ (-1073741824 ≤ o ∧ o ≤ 0) ∧ InOk L0 L v N i k g T j o ∧ IOwn wr Bu (.slice (some ⟨gu, 0, none⟩) N cu) L ∧ Only W0 wr gu) (fun jj _ _ => k - (intOf jj).toNat)
  case atStart => exact ⟨0, 0, L0', by omega, rfl, rfl, by omega, H0.out, HO.out, Only.refl _ _⟩
  case round =>
    clear HO
    obtain ⟨j, o, L, hj, rfl, rfl, hor, hI, hO, hBr⟩ := hrel
    have HI := Lib.hid hI
    have HO := Lib.hid hO
    have HBR := Lib.hid hBr
    clear hI hO hBr
    rcases Nat.lt_or_ge j k with hlt | hge
    · have g1 : decide ((j : Int) < (k : Int)) = true := decide_eq_true (by omega)
      have g1n : decide (j < k) = true := decide_eq_true hlt
      obtain ⟨p, hp⟩ : ∃ p, p = i + j := ⟨_, rfl⟩
      have hpN : p < N := by omega
      have hip : (i : Int) + (j : Int) = (p : Int) := by omega
      have hipw : IntKind.i64.wrap (p : Int) = (p : Int) := Go.IntWalk.i64_in _ (by omega)
      have hLl := HI.out.len
      have cm := HO.out.cellAt hLl hpN
      have fm := HO.out.frozenAt hLl p
      obtain ⟨b, off, rfl, hbl, hcv⟩ := (Rd.only HR.out HBR.out (Nat.le_of_lt hgs.2) (Nat.le_refl _)).at_ (k := j) (by rw [HV.out.len]; exact hlt)
      obtain ⟨x, hx⟩ : ∃ x, x = dg v j := ⟨_, rfl⟩
      have hxr := HV.out.dig.digs (j + 1) j (by omega)
      rw [← hx] at hcv hxr
      obtain ⟨m, hm⟩ : ∃ m, m = dg L p := ⟨_, rfl⟩
      have hmr := HI.out.dig p (by omega)
      rw [← hm] at hmr
      rw [show L.getD p 0 = m from hm.symm] at cm
      obtain ⟨P, hP⟩ : ∃ P, P = g * x := ⟨_, rfl⟩
      obtain ⟨R, hRR⟩ : ∃ R, R = m - P := ⟨_, rfl⟩
      obtain ⟨s, hs⟩ : ∃ s, s = R + o := ⟨_, rfl⟩
      have hor2 := owed_range hmr hg hxr hor (s := s) (by rw [hs, hRR, hP])
      rw [← hP] at hor2
      have f1 : g * x = P := hP.symm
      have f2 : m - P = R := hRR.symm
      have f3 : R + o = s := hs.symm
      have f1w : IntKind.i64.wrap P = P := Go.IntWalk.i64_in _ (by omega)
      have f2w : IntKind.i64.wrap R = R := Go.IntWalk.i64_in _ (by omega)
      have f3w : IntKind.i64.wrap s = s := Go.IntWalk.i64_in _ (by omega)
      have f4 := and_mask s
      have HN := Lib.hid (HI.out.next hik hlt (s := s) (by rw [hs, hRR, hP, hm, hx, hp]))
      rw [← hp] at HN
      obtain ⟨d, hd⟩ : ∃ d, d = s % 1073741824 := ⟨_, rfl⟩
      obtain ⟨o2, ho2⟩ : ∃ o2, o2 = s / 1073741824 := ⟨_, rfl⟩
      rw [← hd] at HN f4
      rw [← ho2] at HN hor2
      have f5 : s / 1073741824 = o2 := ho2.symm
      clear hp hm hx hP hRR hs hd ho2 HKK
      go_wp2_with fail
      go_quiet (fail)
      go_wp2_with fail
      go_roundw
      case rel =>
        have hO2 : IOwn (wr.drewN nq) Bu (.slice (some ⟨gu, 0, none⟩) N cu) L := HO.out
        exact ⟨j + 1, o2, L.set p d, by omega, by go_num, rfl, hor2.1, HN.out, (hO2.set hLl p d).1, (HBR.out.drewN _).set (p := ⟨gu, p, none⟩) (.inl rfl) _⟩
      case measure => simp [intOf]; omega
    · obtain rfl : j = k := by omega
      have g1 : decide ((j : Int) < (j : Int)) = false := decide_eq_false (by omega)
      go_wp2_with fail
      exact HKK.out o L _ _ _ _ _ _ _ _ _ _ _ _ _ _ _ _ _ _ _ _ _ _ _ _ _ _ _ _ _ _ _ HI.out hor HO.out HBR.out
set_option maxRecDepth 1000000 in
set_option linter.unusedSimpArgs false in
set_option linter.unusedVariables false in
set_option maxHeartbeats 8000000 in
theorem long_over {Q : Exit → Act → World → Prop} (L0 L0' v : List Int) (N i k Bu gu cu cv : Nat) (Av : Option Addr) (T : Int) (W0 : World) (c0 c1 c2 c3 c4 c5 c6 c11 c12 c13 c14 c15 c17 c18 c19 c20 c21 c22 c23 c24 c25 c26 c27 c28 c29 c30 c31 c32 c33 c34 c35 c36 c37 c38 c39 c40 c41 c42 c43 c44 c45 c46 c47 c48 c49 c50 c51 c52 c53 c54 c55 c56 c57 c58 c59 c60 c61 c62 c63 c64 c65 c66 c67 c68 c69 c70 c71 c72 c73 c74 c75 c76 c77 c78 c79 c80 c81 c82 c83 c84 c85 c86 c87 c88 c89 c90 c91 c92 c93 c94 c95 c96 c97 c98 c99 c100 c101 c102 c103 c104 c105 c106 c107 c108 c109 c110 c111 c112 c113 c114 c115 c116 c117 c118 c119 c120 c121 c122 c123 c124 c125 c126 c127 c128 c129 c130 c131 c132 c133 c134 c135 c136 c137 c138 c139 c140 c141 c142 c143 c144 c145 c146 c147 c148 c149 c150 c151 c152 c153 c154 c155 c156 c157 c158 c159 c160 c161 c162 c163 c164 c165 c166 c167 c170 c171 c172 c173 c174 c175 c176 c177 c178 c179 c180 c181 c182 c183 c184 c185 c186 c187 c188 c189 c190 c191 c192 c193 c194 c195 c196 c197 c198 c199 c200 c201 c202 c203 c204 c205 c206 c207 c208 c209 c210 c211 c212 c213 c214 c215 c216 c217 c218 : Value)
    (h0 : InOk L0 L0' v N i k (-1) T 0 0) (hN : N ≤ 1000000) (hik : i + k < N) (hv : DivOk v k) (hO : IOwn W0 Bu (.slice (some ⟨gu, 0, none⟩) N cu) L0') (hR : MRd W0 gu Av v)
    (hK : ∀ (o : Int) (L : List Int) (u17 u18 u169 u170 u171 u172 u173 u174 u175 u176 u177 u178 u179 u180 u181 u182 u183 u184 u185 u186 u187 u188 u189 u190 u191 u192 u193 u194 : Value) (W : World), InOk L0 L v N i k (-1) T k o → (0 ≤ o ∧ o ≤ 1) → IOwn W Bu (.slice (some ⟨gu, 0, none⟩) N cu) L → Only W0 W gu → Q .normal { tmps := #[c0, c1, c2, c3, c4, c5, c6, .slice Av k cv, .slice (some ⟨gu, 0, none⟩) N cu, .int .i64 k, .int .i64 i, c11, c12, c13, c14, c15, .int .i64 o, u17, u18, c19, c20, c21, c22, c23, c24, c25, c26, c27, c28, c29, c30, c31, c32, c33, c34, c35, c36, c37, c38, c39, c40, c41, c42, c43, c44, c45, c46, c47, c48, c49, c50, c51, c52, c53, c54, c55, c56, c57, c58, c59, c60, c61, c62, c63, c64, c65, c66, c67, c68, c69, c70, c71, c72, c73, c74, c75, c76, c77, c78, c79, c80, c81, c82, c83, c84, c85, c86, c87, c88, c89, c90, c91, c92, c93, c94, c95, c96, c97, c98, c99, c100, c101, c102, c103, c104, c105, c106, c107, c108, c109, c110, c111, c112, c113, c114, c115, c116, c117, c118, c119, c120, c121, c122, c123, c124, c125, c126, c127, c128, c129, c130, c131, c132, c133, c134, c135, c136, c137, c138, c139, c140, c141, c142, c143, c144, c145, c146, c147, c148, c149, c150, c151, c152, c153, c154, c155, c156, c157, c158, c159, c160, c161, c162, c163, c164, c165, c166, c167, .int .i64 k, u169, u170, u171, u172, u173, u174, u175, u176, u177, u178, u179, u180, u181, u182, u183, u184, u185, u186, u187, u188, u189, u190, u191, u192, u193, u194, c195, c196, c197, c198, c199, c200, c201, c202, c203, c204, c205, c206, c207, c208, c209, c210, c211, c212, c213, c214, c215, c216, c217, c218], defers := [] } W) :
    Code.wp Tryz.prog (longBlk 6) Q { tmps := #[c0, c1, c2, c3, c4, c5, c6, .slice Av k cv, .slice (some ⟨gu, 0, none⟩) N cu, .int .i64 k, .int .i64 i, c11, c12, c13, c14, c15, .int .i64 0, c17, c18, c19, c20, c21, c22, c23, c24, c25, c26, c27, c28, c29, c30, c31, c32, c33, c34, c35, c36, c37, c38, c39, c40, c41, c42, c43, c44, c45, c46, c47, c48, c49, c50, c51, c52, c53, c54, c55, c56, c57, c58, c59, c60, c61, c62, c63, c64, c65, c66, c67, c68, c69, c70, c71, c72, c73, c74, c75, c76, c77, c78, c79, c80, c81, c82, c83, c84, c85, c86, c87, c88, c89, c90, c91, c92, c93, c94, c95, c96, c97, c98, c99, c100, c101, c102, c103, c104, c105, c106, c107, c108, c109, c110, c111, c112, c113, c114, c115, c116, c117, c118, c119, c120, c121, c122, c123, c124, c125, c126, c127, c128, c129, c130, c131, c132, c133, c134, c135, c136, c137, c138, c139, c140, c141, c142, c143, c144, c145, c146, c147, c148, c149, c150, c151, c152, c153, c154, c155, c156, c157, c158, c159, c160, c161, c162, c163, c164, c165, c166, c167, .int .i64 k, .int .i64 0, c170, c171, c172, c173, c174, c175, c176, c177, c178, c179, c180, c181, c182, c183, c184, c185, c186, c187, c188, c189, c190, c191, c192, c193, c194, c195, c196, c197, c198, c199, c200, c201, c202, c203, c204, c205, c206, c207, c208, c209, c210, c211, c212, c213, c214, c215, c216, c217, c218], defers := [] } W0 := by
  have H0 := Lib.hid h0
  have HV := Lib.hid hv
  have HR := Lib.hid hR
  have HO := Lib.hid hO
  have HKK := Lib.hid hK
  have hgs := World.ownsRow.lt hO gu rfl
  clear h0 hv hR hO hK
  conv => arg 2; whnf
  go_wp2_with fail
  go_loopw [169, 16] (fun jj oo wr => ∃ (j : Nat) (o : Int) (L : List Int), j ≤ k ∧ jj = .int .i64 j ∧ oo = .int .i64 o ∧ (0 ≤ o ∧ o ≤ 1) ∧ InOk L0 L v N i k (-1) T j o ∧ IOwn wr Bu (.slice (some ⟨gu, 0, none⟩) N cu) L ∧ Only W0 wr gu) (fun jj _ _ => k - (intOf jj).toNat)
  case atStart => exact ⟨0, 0, L0', by omega, rfl, rfl, by omega, H0.out, HO.out, Only.refl _ _⟩
  case round =>
    clear HO
    obtain ⟨j, o, L, hj, rfl, rfl, hor, hI, hO, hBr⟩ := hrel
    have HI := Lib.hid hI
    have HO := Lib.hid hO
    have HBR := Lib.hid hBr
    clear hI hO hBr
    rcases Nat.lt_or_ge j k with hlt | hge
    · have g1 : decide ((j : Int) < (k : Int)) = true := decide_eq_true (by omega)
      have g1n : decide (j < k) = true := decide_eq_true hlt
      obtain ⟨p, hp⟩ : ∃ p, p = i + j := ⟨_, rfl⟩
      have hpN : p < N := by omega
      have hip : (i : Int) + (j : Int) = (p : Int) := by omega
      have hipw : IntKind.i64.wrap (p : Int) = (p : Int) := Go.IntWalk.i64_in _ (by omega)
      have hLl := HI.out.len
      have cm := HO.out.cellAt hLl hpN
      have fm := HO.out.frozenAt hLl p
      obtain ⟨b, off, rfl, hbl, hcv⟩ := (Rd.only HR.out HBR.out (Nat.le_of_lt hgs.2) (Nat.le_refl _)).at_ (k := j) (by rw [HV.out.len]; exact hlt)
      obtain ⟨x, hx⟩ : ∃ x, x = dg v j := ⟨_, rfl⟩
      have hxr := HV.out.dig.digs (j + 1) j (by omega)
      rw [← hx] at hcv hxr
      obtain ⟨m, hm⟩ : ∃ m, m = dg L p := ⟨_, rfl⟩
      have hmr := HI.out.dig p (by omega)
      rw [← hm] at hmr
      rw [show L.getD p 0 = m from hm.symm] at cm
      obtain ⟨R, hRR⟩ : ∃ R, R = m + x := ⟨_, rfl⟩
      obtain ⟨s, hs⟩ : ∃ s, s = R + o := ⟨_, rfl⟩
      have hor2 := over_range hmr hxr hor (s := s) (by rw [hs, hRR])
      have f2 : m + x = R := hRR.symm
      have f3 : R + o = s := hs.symm
      have f2w : IntKind.i64.wrap R = R := Go.IntWalk.i64_in _ (by omega)
      have f3w : IntKind.i64.wrap s = s := Go.IntWalk.i64_in _ (by omega)
      have f4 := and_mask s
      have HN := Lib.hid (HI.out.next hik hlt (s := s) (by rw [hs, hRR, hm, hx, hp]; omega))
      rw [← hp] at HN
      obtain ⟨d, hd⟩ : ∃ d, d = s % 1073741824 := ⟨_, rfl⟩
      obtain ⟨o2, ho2⟩ : ∃ o2, o2 = s / 1073741824 := ⟨_, rfl⟩
      rw [← hd] at HN f4
      rw [← ho2] at HN hor2
      have f5 : s / 1073741824 = o2 := ho2.symm
      clear hp hm hx hRR hs hd ho2 HKK
      go_wp2_with fail
      go_quiet (fail)
      go_wp2_with fail
      go_roundw
      case rel =>
        have hO2 : IOwn (wr.drewN nq) Bu (.slice (some ⟨gu, 0, none⟩) N cu) L := HO.out
        exact ⟨j + 1, o2, L.set p d, by omega, by go_num, rfl, hor2, HN.out, (hO2.set hLl p d).1, (HBR.out.drewN _).set (p := ⟨gu, p, none⟩) (.inl rfl) _⟩
      case measure => simp [intOf]; omega
    · obtain rfl : j = k := by omega
      have g1 : decide ((j : Int) < (j : Int)) = false := decide_eq_false (by omega)
      go_wp2_with fail
      exact HKK.out o L _ _ _ _ _ _ _ _ _ _ _ _ _ _ _ _ _ _ _ _ _ _ _ _ _ _ _ _ _ HI.out hor HO.out HBR.out
end Go.Proofs.YtkkcbkfpaoldmaaGreatDoor

/- Walk: nat.short. -/
namespace Go.Proofs.YtkkcbkfpaoldmaaGreatDoor
open Go Go.RowKit Go.Shelf
attribute [local go_sem] Oper.semAt_some

theorem iown_kept {W W' : World} {base : Nat} {v : Value} {l : List Int} {row : Option Nat} (h : IOwn W base v l) (hg : W.grownBy W' row) (hr : ∀ r, row = some r → ∃ o : Obj, W.heap[r]? = some o ∧ o.isCells = false) : IOwn W' base v l :=
  World.ownsRow.kept h hg (by
    rcases h.2 with ⟨rfl, -⟩ | ⟨g, cap, cur, rfl, hb, hc, -⟩
    · exact .inl rfl
    · refine .inr fun e => ?_
      obtain ⟨o, ho, hi⟩ := hr g e.symm
      rw [hc] at ho
      cases ho
      simp [Obj.isCells] at hi)
/-- A region that draws its order, within a round, while S holds. -/
theorem wpIn_region_held2 {P : Program} {S : World → Prop} {lr n id : Nat} {Q : Exit → Act → World → Prop} {a : Act} {w : World} {ops : Array Oper} (hm : P.follows .mixedOrders = true) (hnd : noDefer ops = true) (hlo : ¬ LetsOut Q) (hS : S w.drew)
    (h : S w.drew → wpAnyH P .any ops Q S ops.size (Array.replicate ops.size false) a w.drew) : (Code.region id ops true).wpIn (Fence.wide.inRound lr) n P Q a w :=
  wpIn_region_any hm (wpAnyIn_of (noDefer_spec hnd) hlo _ _ _ _ (wpAny_of_held _ _ _ _ (h hS)))
theorem keeps_of_below {W W' : World} (h : Below W.heap.size W W') : KeepsOthers W W' := ⟨h.size, fun k _ ho _ => (h.block k (Array.getElem?_eq_some_iff.1 ho).1).trans ho⟩
/-- What holds between two rounds: the quotient's digits so far, and the rest. -/
def SIn (H : Nat) (n : Nat) (a : List Int) (d : Int) (w : World) (pre : List (Fin n)) (W : World) : Prop :=
  (∃ (Q : List Int) (r : Int), Blk W H 3 #[.int .i64 d] ∧ Blk W (H + 1) 131 #[.slice (some ⟨H + 3, 0, none⟩) n n] ∧ Blk W (H + 2) 3 #[.int .i64 r] ∧ IOwn W (H + 3) (.slice (some ⟨H + 3, 0, none⟩) n n) Q ∧ Q.length = n ∧ DigL Q ∧ (0 ≤ r ∧ r < d) ∧
    (pre <+: List.finRange n → (∀ j, j < n - pre.length → dg Q j = 0) ∧ dsum (dg Q) n * d + r * bp (n - pre.length) = dsum (dg a) n - dsum (dg a) (n - pre.length)) ∧ H + 5 ≤ W.heap.size) ∧ Below H w W
/-- The frame of a round, once its variables are laid. -/
def SAx (H : Nat) (A : Option Addr) (n ca : Nat) (d : Int) (a : List Int) (y : Fin n) (a' : Act) (_ : World) : Prop :=
  ∃ (s : Nat) (x : Int) (u2 u8 u9 u10 u11 u12 u13 u14 u15 u16 u17 u18 u19 u20 u21 u22 u23 u24 u25 u26 u27 u28 u29 u30 : Value), s = n - 1 - y.1 ∧ x = dg a s ∧ a' = { tmps := #[.slice A n ca, .int .i64 d, u2, .pointer (some ⟨H, 0, none⟩), .pointer (some ⟨H + 1, 0, none⟩), .pointer (some ⟨H + 2, 0, none⟩), .int .i64 (s : Int), .int .i64 x, u8, u9, u10, u11, u12, u13, u14, u15, u16, u17, u18, u19, u20, u21, u22, u23, u24, u25, u26, u27, u28, u29, u30], defers := [] }
theorem prefix_snoc {n : Nat} {pre : List (Fin n)} {y : Fin n} (h : pre ++ [y] <+: List.finRange n) : pre <+: List.finRange n ∧ y.1 = pre.length := by
  refine ⟨(List.prefix_append _ _).trans h, ?_⟩
  obtain ⟨r, hr⟩ := h
  have hx : (List.finRange n)[pre.length]? = some y := by rw [← hr, List.append_assoc, List.getElem?_append_right (Nat.le_refl _), Nat.sub_self]; rfl
  have hq := (List.getElem?_eq_some_iff.1 hx).1
  rw [List.getElem?_eq_getElem hq] at hx
  have := Option.some.inj hx
  rw [← this]
  simp
/-- Quotient and rest by one digit. -/
def ShortPost (a : List Int) (d : Int) (w : World) (e : Ending) (w' : World) : Prop :=
  ∃ (q : List Int) (A : Option Addr) (c : Nat), e = .returned (.tuple #[.slice A q.length c, .int .i64 (valL a % d)]) ∧ q.length ≤ c ∧ c ≤ a.length ∧ (A = none → c = 0) ∧ DigL q ∧ TrimL q ∧ valL q = valL a / d ∧ IOwn w' w.heap.size (.slice A q.length c) q ∧ Below w.heap.size w w'
set_option maxRecDepth 100000 in
set_option linter.unusedSimpArgs false in
set_option linter.unusedVariables false in
set_option maxHeartbeats 8000000 in
theorem short_any (A : Option Addr) (a : List Int) (n ca : Nat) (hna : n = a.length) (hn : n ≤ 1000000) (hda : DigL a) (d : Int) (hd : 0 < d ∧ d ≤ 1073741824) (w : World) (hA : MRd w w.heap.size A a) :
    Calls Tryz.prog 103 #[.slice A n ca, .int .i64 d] w (ShortPost a d w) := by
  have HA := Lib.hid hA
  have HNA := Lib.hid hna
  have HDA := Lib.hid hda
  clear hA hna hda
  refine (callsIn_wide (n := 5)).1 ?_
  refine callsIn_of_wp_marks Tryz.func103 rfl trivial ?_ rfl
  simp only [Tryz.ntmps103, List.size_toArray, List.length_cons, List.length_nil, Nat.reduceAdd, Nat.reduceSub, Array.replicate_succ, Array.replicate_zero, List.push_toArray, List.append_toArray, List.nil_append, List.cons_append]
  refine wpIn_wide.2 ?_
  go_upto_region 1 with fail
  obtain ⟨H, hH⟩ : ∃ H, H = w.heap.size := ⟨_, rfl⟩
  obtain ⟨W3, hW3⟩ : ∃ W, W = ((w.alloc (.cells #[.int .i64 d] 3)).alloc (.cells #[.slice none 0 0] 131)).alloc (.cells #[.int .i64 0] 3) := ⟨_, rfl⟩
  have c0 : Blk W3 H 3 #[.int .i64 d] := by rw [hW3, hH]; exact ((Blk.new w _ _).alloc _).alloc _
  have c1 : Blk W3 (H + 1) 131 #[.slice none 0 0] := by rw [hW3, hH]; exact (Blk.new' _ _ _ (by simp)).alloc _
  have c2 : Blk W3 (H + 2) 3 #[.int .i64 0] := by rw [hW3, hH]; exact Blk.new' _ _ _ (by simp)
  have hB3 : Below H w W3 := by rw [hW3, hH]; exact (((Below.refl _ w).alloc (Nat.le_refl _) _).alloc (by simp) _).alloc (by simp; omega) _
  have hz3 : W3.heap.size = H + 3 := by rw [hW3, hH]; simp
  rw [← hW3, ← hH]
  have HH := Lib.hid hH
  have hH1 : H ≤ w.heap.size := by omega
  have hH2 : w.heap.size ≤ H := by omega
  have e1 : W3.cell? ⟨H + 1, 0, none⟩ = some (.slice none 0 0) := c1.cell 0
  have f1 := c1.frozen 0
  clear hW3 hH
  go_wp2_with (refine make_dig rfl _ rfl W3.heap.size n rfl (by omega) (Nat.le_refl _) ?_; intro W4 hown4 hg4; rw [hz3] at hown4 ⊢; have hB4 : Below W3.heap.size W3 W4 := ⟨hg4.os, hg4.tape, hg4.output, hg4.size, fun i hi => hg4.block i hi (by simp)⟩; have d1 := c1.below hB4 c1.lt; have e4 : W4.cell? ⟨H + 1, 0, none⟩ = some (.slice none 0 0) := d1.cell 0; have f4 := d1.frozen 0)
  obtain ⟨W5, hW5⟩ : ∃ W, W = W4.setCell ⟨H + 1, 0, none⟩ (.slice (some ⟨H + 3, 0, none⟩) n n) := ⟨_, rfl⟩
  have hz4 : H + 3 < W4.heap.size := (World.ownsRow.lt hown4 (H + 3) rfl).2
  have k0 : Blk W5 H 3 #[.int .i64 d] := by rw [hW5]; exact (c0.below hB4 c0.lt).far (p := ⟨H + 1, 0, none⟩) (by show H ≠ H + 1; omega) _
  have k1 : Blk W5 (H + 1) 131 #[.slice (some ⟨H + 3, 0, none⟩) n n] := by rw [hW5]; exact d1.set 0 _
  have k2 : Blk W5 (H + 2) 3 #[.int .i64 0] := by rw [hW5]; exact (c2.below hB4 c2.lt).far (p := ⟨H + 1, 0, none⟩) (by show H + 2 ≠ H + 1; omega) _
  have own5 : IOwn W5 (H + 3) (.slice (some ⟨H + 3, 0, none⟩) n n) (List.replicate n 0) := by rw [hW5]; exact ownsRow_setCell_below hown4 (by show H + 1 < H + 3; omega) _
  have hB5 : Below H w W5 := by rw [hW5]; exact (hB3.trans (hB4.mono (by omega))).setCell (p := ⟨H + 1, 0, none⟩) (Nat.le_succ _) _
  have hz5 : H + 4 ≤ W5.heap.size := by rw [hW5]; simp only [World.size_setCell]; omega
  rw [← hW5]
  clear hW5 hown4 d1 e4 f4 e1 f1 c0 c1 c2 hB3 hB4 hg4 hz4 hz3
  refine (ndown_any A n ca W5).mono ?_
  rintro e W0 ⟨rfl, hW0⟩
  obtain ⟨G, hG⟩ : ∃ G, G = W5.heap.size := ⟨_, rfl⟩
  rw [← hG]
  have hb0 : Below W5.heap.size W5 W0 := by rw [hW0]; exact (Below.refl _ _).alloc (Nat.le_refl _) _
  have cG : Blk W0 G 131 #[.slice A n ca] := by rw [hW0, hG]; exact Blk.new _ _ _
  have hGz : G < W0.heap.size := cG.lt
  have hGH : H + 4 ≤ G := by omega
  have hB0 : Below H w W0 := hB5.trans (hb0.mono (by omega))
  have hI0 : SIn H n a d w [] W0 := ⟨⟨List.replicate n 0, 0, k0.below hb0 k0.lt, k1.below hb0 k1.lt, k2.below hb0 k2.lt, IOwn.below own5 hb0, by simp, digL_zeros n, by omega, fun _ => ⟨fun j _ => dg_zeros n j, by rw [dsum_zeros']; simp⟩, by omega⟩, hB0⟩
  have hRA : Rd W0 H A n (fun i => .int .i64 (dg a i)) := by
    have h := HA.out.below (by rw [← HH.out]; exact hB0)
    rw [← HH.out] at h
    rw [HNA.out]
    exact h
  clear k0 k1 k2 own5 hB5 hz5 hW0 hG hb0
  go_wp2_with fail
  refine (wpIn_wide (n := 5)).1 ?_
  refine wpIn_rangeM rfl (by omega) (gf := 137) (lb := #[.pointer (some ⟨G, 0, none⟩)]) rfl trivial (enters_of Tryz.func137 (by kernel_rfl) rfl)
    (back_stops 4 G H A ca n a hn 131 W0 (by omega) cG hRA) (fun _ h => by cases h) (fun h k => Kept.trans h k)
    (fun W ll o o' hl hw1 hw2 hw3 => ⟨belowK_b (w := W0) (by omega) W ll o o' hl hw1 hw2 hw3, fun u hu => (World.putObj_heap_other (by omega)).trans hu⟩) (Below.refl _ _) (fun _ => rfl)
    (SIn H n a d w) (fun _ _ _ => False) ?hI ?hIx (fun _ _ _ _ _ _ _ => trivial) (fun _ _ _ => trivial) hI0 (SAx H A n ca d a) ?hAx ?assign ?body ?done ?stop
  case hI =>
    refine BearsM.of_from (OwnFrom.and (Own.from (fun pre X Y row h hg hr => ?_) _) (ownFrom_below (by omega) (by omega)))
    obtain ⟨Q, r, i0, i1, i2, i3, i4, i5, i6, i7, i8⟩ := h
    exact ⟨Q, r, blk_kept i0 hg hr, blk_kept i1 hg hr, blk_kept i2 hg hr, iown_kept i3 hg hr, i4, i5, i6, i7, Nat.le_trans i8 hg.size⟩
  case hIx => exact fun cc s W W' row hs _ _ => hs
  case hAx => exact fun x a' s W W' row hs _ _ => hs
  case assign =>
    rintro lp pre y W K hIB hK
    simp only [backEnc]
    change Code.wpIn _ _ _ _ _ { tmps := Array.foldl _ _ (#[13, 14].zip #[Value.int .i64 ((n - 1 - y.1 : Nat) : Int), Value.int .i64 (dg a (n - 1 - y.1))]), defers := _ } W
    obtain ⟨s, hs⟩ : ∃ s, s = n - 1 - y.1 := ⟨_, rfl⟩
    rw [← hs]
    obtain ⟨x, hx⟩ : ∃ x, x = dg a s := ⟨_, rfl⟩
    rw [← hx]
    have HSS := Lib.hid hs
    have HXX := Lib.hid hx
    clear hs hx
    simp only [fold2, List.setIfInBounds_toArray, List.set_cons_zero, List.set_cons_succ]
    gi_wp2
    exact hK _ _ ((KeepsOthers.refl _).from _) (Kept.refl _ _ _) hIB ⟨s, x, _, _, _, _, _, _, _, _, _, _, _, _, _, _, _, _, _, _, _, _, _, _, _, _, HSS.out, HXX.out, rfl⟩
  case body =>
    rintro lp pre y a' W ⟨⟨Q, r, k0, k1, k2, hO, hQl, hQd, hr, hinv, hz⟩, hB⟩ ⟨s, x, u2, u8, u9, u10, u11, u12, u13, u14, u15, u16, u17, u18, u19, u20, u21, u22, u23, u24, u25, u26, u27, u28, u29, u30, hs, hx, rfl⟩ hlen
    have hsn : s < n := by have := y.2; omega
    have hxr := HDA.out.digs (s + 1) s (by omega)
    rw [← hx] at hxr
    obtain ⟨t, ht⟩ : ∃ t, t = r * 1073741824 + x := ⟨_, rfl⟩
    have htr : 0 ≤ t ∧ t < 1152921504606846976 := by omega
    have hor := or_low r x (by omega) hxr
    rw [← ht] at hor
    have hsh : wrap64 (r * 1073741824) = r * 1073741824 := wrap_in _ (by omega)
    have c5 : W.cell? ⟨H + 2, 0, none⟩ = some (.int .i64 r) := k2.cell 0
    have f5 := k2.frozen 0
    have HINV := Lib.hid hinv
    have HSS := Lib.hid hs
    have HXX := Lib.hid hx
    have HT := Lib.hid ht
    clear hinv hs hx ht hI0 hRA cG hB0
    gi_wp2_with fail
    obtain ⟨W6, hW6⟩ : ∃ V, V = W.setCell ⟨H + 2, 0, none⟩ (.int .i64 t) := ⟨_, rfl⟩
    have m0 : Blk W6 H 3 #[.int .i64 d] := by rw [hW6]; exact k0.far (p := ⟨H + 2, 0, none⟩) (by show H ≠ H + 2; omega) _
    have m1 : Blk W6 (H + 1) 131 #[.slice (some ⟨H + 3, 0, none⟩) n n] := by rw [hW6]; exact k1.far (p := ⟨H + 2, 0, none⟩) (by show H + 1 ≠ H + 2; omega) _
    have m2 : Blk W6 (H + 2) 3 #[.int .i64 t] := by rw [hW6]; exact k2.set 0 _
    have mO : IOwn W6 (H + 3) (.slice (some ⟨H + 3, 0, none⟩) n n) Q := by rw [hW6]; exact ownsRow_setCell_below hO (by show H + 2 < H + 3; omega) _
    have hk6 : KeepsOthers W W6 := by rw [hW6]; exact KeepsOthers.setCell _ _ _
    have hB6 : Below H w W6 := by rw [hW6]; exact hB.setCell (p := ⟨H + 2, 0, none⟩) (by show H ≤ H + 2; omega) _
    have hG6 : ∀ o, W.heap[G]? = some o → W6.heap[G]? = some o := fun o ho => by rw [hW6, Below.heap_setCell _ _ _ _ (by first | (show H + 2 ≠ G; omega) | (show G ≠ H + 2; omega))]; exact ho
    have hWW : Below H W W6 := by rw [hW6]; exact (Below.refl _ _).setCell (p := ⟨H + 2, 0, none⟩) (by show H ≤ H + 2; omega) _
    have hz6 : H + 5 ≤ W6.heap.size := by rw [hW6]; simp only [World.size_setCell]; omega
    rw [← hW6]
    clear hW6 k0 k1 k2 hO hB c5 f5 hz hor hsh
    have q0 : W6.cell? ⟨H, 0, none⟩ = some (.int .i64 d) := m0.cell 0
    have q1 : W6.cell? ⟨H + 1, 0, none⟩ = some (.slice (some ⟨H + 3, 0, none⟩) n n) := m1.cell 0
    have q2 : W6.cell? ⟨H + 2, 0, none⟩ = some (.int .i64 t) := m2.cell 0
    have g2 := m2.frozen 0
    have q3 := mO.cellAt hQl hsn
    have g3 := mO.frozenAt hQl s
    have hdz : d ≠ 0 := by omega
    have hdz2 : (d == 0) = false := beq_eq_false_iff_ne.2 hdz
    obtain ⟨qd, hqd⟩ : ∃ qd, qd = t / d := ⟨_, rfl⟩
    obtain ⟨r2, hr2⟩ : ∃ r2, r2 = t % d := ⟨_, rfl⟩
    have t1 : t.tdiv d = qd := by rw [Int.tdiv_eq_ediv_of_nonneg htr.1, hqd]
    have t2 : t.tmod d = r2 := by rw [Int.tmod_eq_emod_of_nonneg htr.1, hr2]
    have hqr : 0 ≤ qd ∧ qd < 1073741824 := by rw [hqd, HT.out]; exact short_digit hd.1 hr hxr
    have hrr : 0 ≤ r2 ∧ r2 < d := by rw [hr2]; exact ⟨Int.emod_nonneg _ hdz, Int.emod_lt_of_pos _ hd.1⟩
    have w1 : wrap64 qd = qd := wrap_in _ (by omega)
    have w2 : wrap64 r2 = r2 := wrap_in _ (by omega)
    have w3 : IntKind.i64.wrap qd = qd := Go.IntWalk.i64_in _ (by omega)
    have w4 : IntKind.i64.wrap r2 = r2 := Go.IntWalk.i64_in _ (by omega)
    have HQD := Lib.hid hqd
    have HR2 := Lib.hid hr2
    clear hqd hr2
    have M0 := Lib.hid m0
    have M1 := Lib.hid m1
    have M2 := Lib.hid m2
    have MO := Lib.hid mO
    have HK6 := Lib.hid hk6
    have HB6 := Lib.hid hB6
    have HG6 := Lib.hid hG6
    have HWW := Lib.hid hWW
    have HZ6 := Lib.hid hz6
    have HQD9 := Lib.hid hQd
    have HQL9 := Lib.hid hQl
    have HRR := Lib.hid hrr
    have HGH := Lib.hid hGH
    have HQR := Lib.hid hqr
    clear m0 m1 m2 mO hk6 hB6 hG6 hWW hz6 hQd hQl hrr hqr hr hxr htr hlen hn hGH hGz hH1 hH2
    refine wpIn_region_held2 (S := fun W' => W'.cell? ⟨H, 0, none⟩ = some (.int .i64 d) ∧ W'.cell? ⟨H + 1, 0, none⟩ = some (.slice (some ⟨H + 3, 0, none⟩) n n)) (by kernel_rfl) (by kernel_rfl) ?_ ⟨q0, q1⟩ (fun hS => ?_)
    · intro ho
      obtain ⟨_, _, h⟩ := ho
      exact h
    have p2 : W6.drew.cell? ⟨H + 2, 0, none⟩ = some (.int .i64 t) := q2
    have p3 : W6.drew.cell? ⟨H + 3, s, none⟩ = some (.int .i64 (Q.getD s 0)) := q3
    have v2 : W6.drew.frozen? ⟨H + 2, 0, none⟩ = false := g2
    have v3 : W6.drew.frozen? ⟨H + 3, s, none⟩ = false := g3
    clear q0 q1 q2 q3 g2 g3
    have D0 := M0.out.drew
    have D1 := M1.out.drew
    have D2 := M2.out.drew
    have DO : IOwn W6.drew (H + 3) (.slice (some ⟨H + 3, 0, none⟩) n n) Q := own_drew MO.out
    have HBD := HB6.out.drew
    have HKD : KeepsOthers W W6.drew := ⟨HK6.out.size, HK6.out.same⟩
    have HGD : ∀ o, W.heap[G]? = some o → W6.drew.heap[G]? = some o := HG6.out
    have HWD := HWW.out.drew
    have hzd : H + 5 ≤ W6.drew.heap.size := HZ6.out
    generalize W6.drew = V6 at p2 p3 v2 v3 hS D0 D1 D2 DO HBD HKD HGD HWD hzd ⊢
    refine wpAnyH_take (i := 0) (v := .slice (some ⟨H + 3, 0, none⟩) n n) rfl (by kernel_rfl) (by kernel_rfl) (by kernel_rfl) (fun _ _ _ h => h) (Or.inl ⟨by rfl, fun W' hS' => by have := hS'.2; go_simp⟩) hS ?_
    simp only [Act.put, List.getElem_toArray, List.getElem_cons_zero, List.getElem_cons_succ, List.setIfInBounds_toArray, List.set_cons_zero, List.set_cons_succ]
    refine wpAnyH_take (i := 1) (v := .int .i64 s) rfl (by kernel_rfl) (by kernel_rfl) (by kernel_rfl) (fun _ _ _ h => h) (Or.inl ⟨by rfl, fun W' hS' => by go_simp⟩) hS ?_
    simp only [Act.put, List.getElem_toArray, List.getElem_cons_zero, List.getElem_cons_succ, List.setIfInBounds_toArray, List.set_cons_zero, List.set_cons_succ]
    refine wpAnyH_take (i := 3) (v := .int .i64 d) rfl (by kernel_rfl) (by kernel_rfl) (by kernel_rfl) (fun _ _ _ h => h) (Or.inl ⟨by rfl, fun W' hS' => by have := hS'.1; go_simp⟩) hS ?_
    simp only [Act.put, List.getElem_toArray, List.getElem_cons_zero, List.getElem_cons_succ, List.setIfInBounds_toArray, List.set_cons_zero, List.set_cons_succ]
    refine wpAnyH_take (i := 6) (v := .int .i64 d) rfl (by kernel_rfl) (by kernel_rfl) (by kernel_rfl) (fun _ _ _ h => h) (Or.inl ⟨by rfl, fun W' hS' => by have := hS'.1; go_simp⟩) hS ?_
    simp only [Act.put, List.getElem_toArray, List.getElem_cons_zero, List.getElem_cons_succ, List.setIfInBounds_toArray, List.set_cons_zero, List.set_cons_succ]
    have N2 := D2.far (p := ⟨H + 3, s, none⟩) (by show H + 2 ≠ H + 3; omega) (.int .i64 qd)
    have N0 := D0.far (p := ⟨H + 3, s, none⟩) (by show H ≠ H + 3; omega) (.int .i64 qd)
    have N1 := D1.far (p := ⟨H + 3, s, none⟩) (by show H + 1 ≠ H + 3; omega) (.int .i64 qd)
    have n2 : (V6.setCell ⟨H + 3, s, none⟩ (.int .i64 qd)).cell? ⟨H + 2, 0, none⟩ = some (.int .i64 t) := N2.cell 0
    have y2 : (V6.setCell ⟨H + 3, s, none⟩ (.int .i64 qd)).frozen? ⟨H + 2, 0, none⟩ = false := N2.frozen 0
    have hS9 : (V6.setCell ⟨H + 3, s, none⟩ (.int .i64 qd)).cell? ⟨H, 0, none⟩ = some (.int .i64 d) ∧ (V6.setCell ⟨H + 3, s, none⟩ (.int .i64 qd)).cell? ⟨H + 1, 0, none⟩ = some (.slice (some ⟨H + 3, 0, none⟩) n n) := ⟨N0.cell 0, N1.cell 0⟩
    have hS10 : ((V6.setCell ⟨H + 3, s, none⟩ (.int .i64 qd)).setCell ⟨H + 2, 0, none⟩ (.int .i64 r2)).cell? ⟨H, 0, none⟩ = some (.int .i64 d) ∧ ((V6.setCell ⟨H + 3, s, none⟩ (.int .i64 qd)).setCell ⟨H + 2, 0, none⟩ (.int .i64 r2)).cell? ⟨H + 1, 0, none⟩ = some (.slice (some ⟨H + 3, 0, none⟩) n n) := ⟨(N0.far (p := ⟨H + 2, 0, none⟩) (by show H ≠ H + 2; omega) _).cell 0, (N1.far (p := ⟨H + 2, 0, none⟩) (by show H + 1 ≠ H + 2; omega) _).cell 0⟩
    have HFIN := Lib.hid (show ownPostG W0.heap.size (Kept H G) (SIn H n a d w) (fun _ _ _ => False) (pre ++ [y]) W .normal { tmps := #[], defers := [] } ((V6.setCell ⟨H + 3, s, none⟩ (.int .i64 qd)).setCell ⟨H + 2, 0, none⟩ (.int .i64 r2)) by
      have hGH := HGH.out
      refine ⟨((HKD.trans (KeepsOthers.setCell _ _ _)).trans (KeepsOthers.setCell _ _ _)).from _, ⟨(HWD.setCell (p := ⟨H + 3, s, none⟩) (by show H ≤ H + 3; omega) _).setCell (p := ⟨H + 2, 0, none⟩) (by show H ≤ H + 2; omega) _, fun o ho => ?_⟩, ⟨Q.set s qd, r2, D0.far (p := ⟨H + 3, s, none⟩) (by show H ≠ H + 3; omega) _ |>.far (p := ⟨H + 2, 0, none⟩) (by show H ≠ H + 2; omega) _, D1.far (p := ⟨H + 3, s, none⟩) (by show H + 1 ≠ H + 3; omega) _ |>.far (p := ⟨H + 2, 0, none⟩) (by show H + 1 ≠ H + 2; omega) _, (D2.far (p := ⟨H + 3, s, none⟩) (by show H + 2 ≠ H + 3; omega) _).set 0 _,
        ownsRow_setCell_below (DO.set HQL9.out s qd).1 (by show H + 2 < H + 3; omega) _, by rw [List.length_set]; exact HQL9.out, HQD9.out.set s HQR.out, HRR.out, fun hpre => ?_, by simp only [World.size_setCell]; exact hzd⟩, (HBD.setCell (p := ⟨H + 3, s, none⟩) (by show H ≤ H + 3; omega) _).setCell (p := ⟨H + 2, 0, none⟩) (by show H ≤ H + 2; omega) _⟩
      · rw [Below.heap_setCell _ _ _ _ (by first | (show H + 2 ≠ G; omega) | (show G ≠ H + 2; omega)), Below.heap_setCell _ _ _ _ (by first | (show H + 3 ≠ G; omega) | (show G ≠ H + 3; omega))]
        exact HGD o ho
      · obtain ⟨hp1, hp2⟩ := prefix_snoc hpre
        obtain ⟨hz0, hsum⟩ := HINV.out hp1
        have hyn := y.2
        have hs1 := HSS.out
        have e1 : n - pre.length = s + 1 := by omega
        have e2 : n - (pre ++ [y]).length = s := by rw [List.length_append, List.length_singleton]; omega
        rw [e1] at hz0 hsum
        rw [e2]
        refine ⟨fun j hj => ?_, ?_⟩
        · rw [dg_set (by rw [HQL9.out]; exact hsn), if_neg (by omega)]
          exact hz0 j (by omega)
        · rw [dsum_setL (by rw [HQL9.out]; exact hsn) hsn, hz0 s (by omega), Int.sub_zero, HQD.out, HR2.out, HT.out, short_step hsum, dsum_succ, ← HXX.out]
          omega)
    clear N0 N1 N2
    refine wpAnyH_ready (rs := [2, 5]) (by kernel_rfl) (by simp) ?_
    refine AllReadyH.cons rfl (fun Kq hKq => ?_) (AllReadyH.cons rfl (fun Kq hKq => ?_) AllReadyH.nil)
    · simp only [List.getElem_toArray, List.getElem_cons_zero, List.getElem_cons_succ]
      go_simp
      refine hKq.out _ _ hS (fun _ => ?_)
      clear hKq Kq
      refine wpAnyH_take (i := 4) (v := .int .i64 qd) rfl (by kernel_rfl) (by kernel_rfl) (by kernel_rfl) (fun _ _ _ h => h) (Or.inl ⟨by rfl, fun W' hS' => by go_simp⟩) hS ?_
      simp only [Act.put, List.getElem_toArray, List.getElem_cons_zero, List.getElem_cons_succ, List.setIfInBounds_toArray, List.set_cons_zero, List.set_cons_succ]
      refine wpAnyH_take (i := 8) (v := .pointer (some ⟨H + 3, s, none⟩)) rfl (by kernel_rfl) (by kernel_rfl) (by kernel_rfl) (fun _ _ _ h => h) (Or.inl ⟨by rfl, fun W' hS' => by go_simp⟩) hS ?_
      simp only [Act.put, List.getElem_toArray, List.getElem_cons_zero, List.getElem_cons_succ, List.setIfInBounds_toArray, List.set_cons_zero, List.set_cons_succ]
      refine wpAnyH_ready (rs := [5, 9]) (by kernel_rfl) (by simp) ?_
      refine AllReadyH.cons rfl (fun Kq hKq => ?_) (AllReadyH.cons rfl (fun Kq hKq => ?_) AllReadyH.nil)
      · simp only [List.getElem_toArray, List.getElem_cons_zero, List.getElem_cons_succ]
        go_simp
        refine hKq.out _ _ hS (fun _ => ?_)
        clear hKq Kq
        refine wpAnyH_take (i := 7) (v := .int .i64 r2) rfl (by kernel_rfl) (by kernel_rfl) (by kernel_rfl) (fun _ _ _ h => h) (Or.inl ⟨by rfl, fun W' hS' => by go_simp⟩) hS ?_
        simp only [Act.put, List.getElem_toArray, List.getElem_cons_zero, List.getElem_cons_succ, List.setIfInBounds_toArray, List.set_cons_zero, List.set_cons_succ]
        refine wpAnyH_ready (rs := [9]) (by kernel_rfl) (by simp) ?_
        refine AllReadyH.cons rfl (fun Kq hKq => ?_) AllReadyH.nil
        simp only [List.getElem_toArray, List.getElem_cons_zero, List.getElem_cons_succ]
        go_simp
        refine hKq.out _ _ hS9 (fun _ => ?_)
        clear hKq Kq
        refine wpAnyH_ready (rs := [10]) (by kernel_rfl) (by simp) ?_
        refine AllReadyH.cons rfl (fun Kq hKq => ?_) AllReadyH.nil
        simp only [List.getElem_toArray, List.getElem_cons_zero, List.getElem_cons_succ]
        go_simp
        refine hKq.out _ _ hS10 (fun _ => ?_)
        clear hKq Kq
        refine wpAnyH_done (by kernel_rfl) ?_ _
        exact HFIN.out
      · simp only [List.getElem_toArray, List.getElem_cons_zero, List.getElem_cons_succ]
        go_simp
        refine hKq.out _ _ hS9 (fun _ => ?_)
        clear hKq Kq
        refine wpAnyH_ready (rs := [5]) (by kernel_rfl) (by simp) ?_
        refine AllReadyH.cons rfl (fun Kq hKq => ?_) AllReadyH.nil
        simp only [List.getElem_toArray, List.getElem_cons_zero, List.getElem_cons_succ]
        go_simp
        refine hKq.out _ _ hS9 (fun _ => ?_)
        clear hKq Kq
        refine wpAnyH_take (i := 7) (v := .int .i64 r2) rfl (by kernel_rfl) (by kernel_rfl) (by kernel_rfl) (fun _ _ _ h => h) (Or.inl ⟨by rfl, fun W' hS' => by go_simp⟩) hS9 ?_
        simp only [Act.put, List.getElem_toArray, List.getElem_cons_zero, List.getElem_cons_succ, List.setIfInBounds_toArray, List.set_cons_zero, List.set_cons_succ]
        refine wpAnyH_ready (rs := [10]) (by kernel_rfl) (by simp) ?_
        refine AllReadyH.cons rfl (fun Kq hKq => ?_) AllReadyH.nil
        simp only [List.getElem_toArray, List.getElem_cons_zero, List.getElem_cons_succ]
        go_simp
        refine hKq.out _ _ hS10 (fun _ => ?_)
        clear hKq Kq
        refine wpAnyH_done (by kernel_rfl) ?_ _
        exact HFIN.out
    · simp only [List.getElem_toArray, List.getElem_cons_zero, List.getElem_cons_succ]
      go_simp
      refine hKq.out _ _ hS (fun _ => ?_)
      clear hKq Kq
      refine wpAnyH_take (i := 7) (v := .int .i64 r2) rfl (by kernel_rfl) (by kernel_rfl) (by kernel_rfl) (fun _ _ _ h => h) (Or.inl ⟨by rfl, fun W' hS' => by go_simp⟩) hS ?_
      simp only [Act.put, List.getElem_toArray, List.getElem_cons_zero, List.getElem_cons_succ, List.setIfInBounds_toArray, List.set_cons_zero, List.set_cons_succ]
      refine wpAnyH_ready (rs := [2]) (by kernel_rfl) (by simp) ?_
      refine AllReadyH.cons rfl (fun Kq hKq => ?_) AllReadyH.nil
      simp only [List.getElem_toArray, List.getElem_cons_zero, List.getElem_cons_succ]
      go_simp
      refine hKq.out _ _ hS (fun _ => ?_)
      clear hKq Kq
      refine wpAnyH_take (i := 4) (v := .int .i64 qd) rfl (by kernel_rfl) (by kernel_rfl) (by kernel_rfl) (fun _ _ _ h => h) (Or.inl ⟨by rfl, fun W' hS' => by go_simp⟩) hS ?_
      simp only [Act.put, List.getElem_toArray, List.getElem_cons_zero, List.getElem_cons_succ, List.setIfInBounds_toArray, List.set_cons_zero, List.set_cons_succ]
      refine wpAnyH_take (i := 8) (v := .pointer (some ⟨H + 3, s, none⟩)) rfl (by kernel_rfl) (by kernel_rfl) (by kernel_rfl) (fun _ _ _ h => h) (Or.inl ⟨by rfl, fun W' hS' => by go_simp⟩) hS ?_
      simp only [Act.put, List.getElem_toArray, List.getElem_cons_zero, List.getElem_cons_succ, List.setIfInBounds_toArray, List.set_cons_zero, List.set_cons_succ]
      refine wpAnyH_ready (rs := [9]) (by kernel_rfl) (by simp) ?_
      refine AllReadyH.cons rfl (fun Kq hKq => ?_) AllReadyH.nil
      simp only [List.getElem_toArray, List.getElem_cons_zero, List.getElem_cons_succ]
      go_simp
      refine hKq.out _ _ hS9 (fun _ => ?_)
      clear hKq Kq
      refine wpAnyH_ready (rs := [10]) (by kernel_rfl) (by simp) ?_
      refine AllReadyH.cons rfl (fun Kq hKq => ?_) AllReadyH.nil
      simp only [List.getElem_toArray, List.getElem_cons_zero, List.getElem_cons_succ]
      go_simp
      refine hKq.out _ _ hS10 (fun _ => ?_)
      clear hKq Kq
      refine wpAnyH_done (by kernel_rfl) ?_ _
      exact HFIN.out
  case done =>
    rintro D xs W hD rfl ⟨⟨Q, r, k0, k1, k2, hO, hQl, hQd, hr, hinv, hz⟩, hB⟩ - hK
    obtain ⟨-, hsum⟩ := hinv (List.prefix_refl _)
    rw [List.length_finRange, Nat.sub_self] at hsum
    have hval : valL Q * d + r = valL a := by
      have e0 : dsum (dg a) 0 = 0 := rfl
      have e1 : bp 0 = 1 := rfl
      rw [e0, e1, Int.mul_one, Int.sub_zero] at hsum
      rw [valL, hQl, hsum, HNA.out, valL]
    have HVQ := Lib.hid (show valL Q = valL a / d by
      rw [← hval, Int.add_comm, Int.add_mul_ediv_right _ _ (by omega), Int.ediv_eq_zero_of_lt hr.1 hr.2, Int.zero_add])
    have HVR := Lib.hid (show r = valL a % d by
      rw [← hval, Int.add_comm, Int.add_mul_emod_self_right, Int.emod_eq_of_lt hr.1 hr.2])
    have HT := Lib.hid (fun V (hb : Below W.heap.size W V) => trim_any (some ⟨H + 3, 0, none⟩) Q n n hQl.symm (Nat.le_refl _) (by omega) (by omega) V (((mrd_own hO hQl).below hb).more hb.size))
    obtain ⟨m, hm⟩ : ∃ m, m = tlen Q n := ⟨_, rfl⟩
    rw [← hm] at HT
    have HMT := Lib.hid hm
    have HO := Lib.hid hO
    have HK := Lib.hid hK
    have HB := Lib.hid hB
    have HQD := Lib.hid hQd
    have D1 := k1.drew
    have D2 := k2.drew
    have p1 : W.drew.cell? ⟨H + 1, 0, none⟩ = some (.slice (some ⟨H + 3, 0, none⟩) n n) := D1.cell 0
    have p2 : W.drew.cell? ⟨H + 2, 0, none⟩ = some (.int .i64 r) := D2.cell 0
    have hWd : Below W.heap.size W W.drew := (Below.refl _ _).drew
    have hz1 := k1.lt
    have hz2 := k2.lt
    clear hinv hsum hval hm hO hK hB hQd k0 k1 k2
    go_wp2_with fail
    refine wp_only ?_
    refine wp_region_held_drew (S := fun W' => W'.cell? ⟨H + 2, 0, none⟩ = some (.int .i64 r)) (by kernel_rfl) p2 (fun hS => ?_)
    refine wpAnyH_take (i := 2) (v := .int .i64 r) rfl (by kernel_rfl) (by kernel_rfl) (by kernel_rfl) (fun _ _ _ h => h) (Or.inl ⟨by rfl, fun W' hS' => by have := hS'; go_simp⟩) hS ?_
    simp only [Act.put, List.getElem_toArray, List.getElem_cons_zero, List.getElem_cons_succ, List.setIfInBounds_toArray, List.set_cons_zero, List.set_cons_succ]
    refine wpAnyH_ready (rs := [0]) (by kernel_rfl) (by simp) ?_
    refine AllReadyH.cons rfl (fun Kq hKq => ?_) AllReadyH.nil
    simp only [List.getElem_toArray, List.getElem_cons_zero, List.getElem_cons_succ]
    go_simp
    refine hKq.out _ _ hS (fun _ => ?_)
    clear hKq Kq
    refine wpAnyH_ready (rs := [1]) (by kernel_rfl) (by simp) ?_
    refine AllReadyH.cons rfl (fun Kq hKq => ?_) AllReadyH.nil
    simp only [List.getElem_toArray, List.getElem_cons_zero, List.getElem_cons_succ]
    go_simp
    refine (HT.out _ hWd).mono ?_
    rintro e W1 ⟨rfl, hb1⟩
    have E1 := D1.below hb1 D1.lt
    have E2 := D2.below hb1 D2.lt
    have hb01 := hWd.trans (hb1.mono hWd.size)
    have x1 : W1.cell? ⟨H + 1, 0, none⟩ = some (.slice (some ⟨H + 3, 0, none⟩) n n) := E1.cell 0
    have x2 : W1.cell? ⟨H + 2, 0, none⟩ = some (.int .i64 r) := E2.cell 0
    have y1 := E1.frozen 0
    refine hKq.out _ _ x2 (fun _ => ?_)
    clear hKq Kq p1 p2 hS
    refine wpAnyH_ready (rs := [3]) (by kernel_rfl) (by simp) ?_
    refine AllReadyH.cons rfl (fun Kq hKq => ?_) AllReadyH.nil
    simp only [List.getElem_toArray, List.getElem_cons_zero, List.getElem_cons_succ]
    go_simp
    have F1 := E1.set 0 (.slice (some ⟨H + 3, 0, none⟩) m n)
    have F2 := E2.far (p := ⟨H + 1, 0, none⟩) (by show H + 2 ≠ H + 1; omega) (.slice (some ⟨H + 3, 0, none⟩) m n)
    have z2 : (W1.setCell ⟨H + 1, 0, none⟩ (.slice (some ⟨H + 3, 0, none⟩) m n)).cell? ⟨H + 2, 0, none⟩ = some (.int .i64 r) := F2.cell 0
    have w2 := F2.frozen 0
    refine hKq.out _ _ z2 (fun _ => ?_)
    clear hKq Kq
    refine wpAnyH_ready (rs := [4]) (by kernel_rfl) (by simp) ?_
    refine AllReadyH.cons rfl (fun Kq hKq => ?_) AllReadyH.nil
    simp only [List.getElem_toArray, List.getElem_cons_zero, List.getElem_cons_succ]
    go_simp
    have G1 := F1.far (p := ⟨H + 2, 0, none⟩) (by show H + 1 ≠ H + 2; omega) (.int .i64 r)
    have G2 := F2.set 0 (.int .i64 r)
    refine hKq.out _ _ (G2.cell 0) (fun _ => ?_)
    clear hKq Kq
    have hI1 : IOwn W1 (H + 3) (.slice (some ⟨H + 3, 0, none⟩) n n) Q := IOwn.below (own_drew HO.out : IOwn W.drew (H + 3) (.slice (some ⟨H + 3, 0, none⟩) n n) Q) hb1
    have hI2 := ownsRow_setCell_below (ownsRow_setCell_below hI1 (a := ⟨H + 1, 0, none⟩) (by show H + 1 < H + 3; omega) (.slice (some ⟨H + 3, 0, none⟩) m n)) (a := ⟨H + 2, 0, none⟩) (by show H + 2 < H + 3; omega) (.int .i64 r)
    have hK' := (((keeps_of_below hb01).trans (KeepsOthers.setCell _ ⟨H + 1, 0, none⟩ (.slice (some ⟨H + 3, 0, none⟩) m n))).trans (KeepsOthers.setCell _ ⟨H + 2, 0, none⟩ (.int .i64 r))).same D _ HK.out rfl
    have hBf : Below H w ((W1.setCell ⟨H + 1, 0, none⟩ (.slice (some ⟨H + 3, 0, none⟩) m n)).setCell ⟨H + 2, 0, none⟩ (.int .i64 r)) := ((HB.out.trans (hb01.mono (by omega))).setCell (p := ⟨H + 1, 0, none⟩) (by show H ≤ H + 1; omega) _).setCell (p := ⟨H + 2, 0, none⟩) (by show H ≤ H + 2; omega) _
    generalize (W1.setCell ⟨H + 1, 0, none⟩ (.slice (some ⟨H + 3, 0, none⟩) m n)).setCell ⟨H + 2, 0, none⟩ (.int .i64 r) = V at G1 G2 hI2 hK' hBf ⊢
    clear F1 F2 z2 w2 x1 x2 y1 E1 E2 D1 D2 hI1 hb01 hb1
    refine wpAnyH_done (by kernel_rfl) ?_ _
    simp only [onlyNormal]
    go_wp2
    refine ⟨by simp, .inl ⟨_, _, rfl, run_takeDeferred hK', ?_⟩⟩
    have c1 : (V.putObj D (.deferred none)).cell? ⟨H + 1, 0, none⟩ = some (.slice (some ⟨H + 3, 0, none⟩) m n) := cell_kept (G1.cell 0) (grownBy_putObj' _ D (.deferred none)) (fun r e => by cases e; exact ⟨_, hK', rfl⟩)
    have c2 : (V.putObj D (.deferred none)).cell? ⟨H + 1 + 1, 0, none⟩ = some (.int .i64 r) := cell_kept (G2.cell 0) (grownBy_putObj' _ D (.deferred none)) (fun r e => by cases e; exact ⟨_, hK', rfl⟩)
    have hI3 := iown_kept (v := .slice (some ⟨H + 3, 0, none⟩) n n) hI2 (grownBy_putObj' _ D (.deferred none)) (fun r e => by cases e; exact ⟨_, hK', rfl⟩)
    have hlen := trimmed_len Q
    rw [hQl, ← HMT.out] at hlen
    refine ⟨.tuple #[.slice (some ⟨H + 3, 0, none⟩) m n, .int .i64 r], ?_, trimmed Q, some ⟨H + 3, 0, none⟩, n, by rw [hlen, HVR.out], by rw [hlen, HMT.out]; exact tlen_le _ _, by rw [HNA.out]; exact Nat.le_refl _, fun h => (by cases h), trimmed_dig HQD.out, trimmed_trim Q, by rw [trimmed_val]; exact HVQ.out, ?_, ?_⟩
    · simp [results, Tryz.f103, go_sem, c1, c2]
    · have h := (hI3.cut hQl (m := m) (by rw [HMT.out]; exact tlen_le _ _)).base (show w.heap.size ≤ H + 3 by omega)
      rw [hlen]
      rw [trimmed, hQl, ← HMT.out]
      exact h
    · rw [← HH.out]
      exact hBf.trans (belowK_b (w := W0) (by omega) _ D _ _ hD hK' rfl rfl)
  case stop =>
    rintro D cc pre W hD hpre h hK
    exact h.elim
end Go.Proofs.YtkkcbkfpaoldmaaGreatDoor

/- Several texts in one: N22, N23, N24. -/
import Derived.Test.YtkkcbkfpaoldmaaGreatDoorM11
import Derived.Deep.CutBlock
/- Walk: the outer loop of nat.long. -/
namespace Go.Proofs.YtkkcbkfpaoldmaaGreatDoor
open Go Go.RowKit

/-- Between two rounds: j digits of the quotient are still to come. -/
structure LongOk (v : List Int) (N n k : Nat) (T : Int) (j : Nat) (L Q : List Int) : Prop where
  few : j ≤ n
  len : L.length = N
  dig : DigL L
  zero : ∀ x, j + k ≤ x → dg L x = 0
  less : dsum (dg L) N < valL v * bp j
  qlen : Q.length = n
  qdigs : DigL Q
  qzero : ∀ x, x < j → dg Q x = 0
  sum : dsum (dg Q) n * valL v + dsum (dg L) N = T
theorem LongOk.round {v : List Int} {N n k j : Nat} {T : Int} {L Q : List Int} (h : LongOk v N n k T (j + 1) L Q) (hn : n + k = N) : RoundOk L v N j k :=
  ⟨by have := h.few; omega, h.dig, fun x hx => h.zero x (by omega), h.less⟩
theorem LongOk.next {v : List Int} {N n k j : Nat} {T f T2 : Int} {L L2 Q : List Int} (h : LongOk v N n k T (j + 1) L Q) (hn : n + k = N) (hv : DivOk v k) (hi : InOk L L2 v N j k f T2 k 0) (hf : f = qdig L v j k) : LongOk v N n k T j L2 (Q.set j f) := by
  have hr := h.round hn
  obtain ⟨h1, h2, h3, h4⟩ := hi.round hr hv hf
  have hg := hr.guess hv
  have hj := h.few
  refine ⟨by omega, hi.len, h1, h2, h3, by rw [List.length_set]; exact h.qlen, h.qdigs.set j (by omega), fun x hx => ?_, ?_⟩
  · rw [dg_set (by rw [h.qlen]; omega), if_neg (by omega)]
    exact h.qzero x (by omega)
  · rw [quo_set h.qlen (by omega) (h.qzero j (by omega)), h4, ← h.sum]
    grind
theorem InOk.both {L0 L L2 v : List Int} {N i k : Nat} {f T T2 : Int} (h : InOk L0 L v N i k f T k 0) (h2 : InOk L L2 v N i k (-1) T2 k 0) : InOk L0 L2 v N i k (f - 1) T2 k 0 := by
  refine ⟨h2.len, h2.dig, h2.top, h2.zero, h2.low.trans h.low, ?_⟩
  have e1 := h.sum
  have e2 := h2.sum
  grind
theorem InOk.again {L0 L v : List Int} {N i k : Nat} {f T : Int} (h : InOk L0 L v N i k f T k 0) : InOk L L v N i k (-1) T 0 0 := ⟨h.len, h.dig, h.top, h.zero, rfl, by simp [dsum]⟩
theorem iown_only {w w' : World} {B g b : Nat} {n c : Nat} {l : List Int} (h : IOwn w B (.slice (some ⟨g, 0, none⟩) n c) l) (ho : Only w w' b) (hne : g ≠ b) : IOwn w' B (.slice (some ⟨g, 0, none⟩) n c) l := World.ownsRow.kept h ho (.inr fun e => hne (by simpa [Value.ownBlock] using e))
set_option maxRecDepth 1000000 in
set_option linter.unusedSimpArgs false in
set_option linter.unusedVariables false in
set_option maxHeartbeats 8000000 in
theorem long_rounds {Q : Exit → Act → World → Prop} (L0 Q0 v : List Int) (N n k Bu Bq gu gq cu cv : Nat) (Av : Option Addr) (T : Int) (W0 : World) (c0 c1 c2 c3 c5 c6 c11 c12 c13 c14 c15 c16 c17 c18 c19 c20 c21 c22 c23 c24 c25 c26 c27 c28 c29 c30 c31 c32 c33 c34 c35 c36 c37 c38 c39 c40 c41 c42 c43 c44 c45 c46 c47 c48 c49 c50 c51 c52 c53 c54 c55 c56 c57 c58 c59 c60 c61 c62 c63 c64 c65 c66 c67 c68 c69 c70 c71 c72 c73 c74 c75 c76 c77 c78 c79 c80 c81 c82 c83 c84 c85 c86 c87 c88 c89 c90 c91 c92 c93 c94 c95 c96 c97 c98 c99 c100 c101 c102 c103 c104 c105 c106 c107 c108 c109 c110 c111 c112 c113 c114 c115 c116 c117 c118 c119 c120 c121 c122 c123 c124 c125 c126 c127 c128 c129 c130 c131 c132 c133 c134 c135 c136 c137 c138 c139 c140 c141 c142 c143 c144 c145 c146 c147 c148 c149 c150 c151 c152 c153 c154 c155 c156 c157 c158 c159 c160 c161 c162 c163 c164 c165 c166 c167 c168 c169 c170 c171 c172 c173 c174 c175 c176 c177 c178 c179 c180 c181 c182 c183 c184 c185 c186 c187 c188 c189 c190 c191 c192 c193 c194 c195 c196 c197 c198 c199 c200 c201 c202 c203 c204 c205 c206 c207 c208 c209 c210 c211 c212 c213 c214 c215 c216 c217 c218 : Value)
    (h0 : LongOk v N n k T n L0 Q0) (hN : N ≤ 1000000) (hn : n + k = N) (hv : DivOk v k) (hO : IOwn W0 Bu (.slice (some ⟨gu, 0, none⟩) N cu) L0) (hQ : IOwn W0 Bq (.slice (some ⟨gq, 0, none⟩) n n) Q0) (hgq : gu ≠ gq) (hguq : gu ≤ gq) (hR : MRd W0 gu Av v)
    (hK : ∀ (L Q' : List Int) (u10 u11 u12 u13 u14 u15 u16 u17 u18 u52 u53 u54 u55 u56 u57 u58 u59 u60 u61 u62 u63 u64 u65 u66 u67 u68 u69 u70 u71 u72 u73 u74 u75 u76 u77 u78 u79 u80 u81 u82 u83 u84 u85 u86 u87 u88 u89 u90 u91 u92 u93 u94 u95 u96 u97 u98 u99 u100 u101 u102 u103 u104 u105 u106 u107 u108 u109 u110 u111 u112 u113 u114 u115 u116 u117 u118 u119 u120 u121 u122 u123 u124 u125 u126 u127 u128 u129 u130 u131 u132 u133 u134 u135 u136 u137 u138 u139 u140 u141 u142 u143 u144 u145 u146 u147 u148 u149 u150 u151 u152 u153 u154 u155 u156 u157 u158 u159 u160 u161 u162 u163 u164 u165 u166 u167 u168 u169 u170 u171 u172 u173 u174 u175 u176 u177 u178 u179 u180 u181 u182 u183 u184 u185 u186 u187 u188 u189 u190 u191 u192 u193 u194 u195 u196 u197 u198 u199 u200 u201 u202 u203 u204 u205 u206 u207 : Value) (W : World), LongOk v N n k T 0 L Q' → IOwn W Bu (.slice (some ⟨gu, 0, none⟩) N cu) L → IOwn W Bq (.slice (some ⟨gq, 0, none⟩) n n) Q' → Below gu W0 W → Q .normal { tmps := #[c0, c1, c2, c3, .slice (some ⟨gq, 0, none⟩) n n, c5, c6, .slice Av k cv, .slice (some ⟨gu, 0, none⟩) N cu, .int .i64 k, u10, u11, u12, u13, u14, u15, u16, u17, u18, c19, c20, c21, c22, c23, c24, c25, c26, c27, c28, c29, c30, c31, c32, c33, c34, c35, c36, c37, c38, c39, c40, c41, c42, c43, c44, c45, c46, c47, c48, c49, c50, c51, u52, u53, u54, u55, u56, u57, u58, u59, u60, u61, u62, u63, u64, u65, u66, u67, u68, u69, u70, u71, u72, u73, u74, u75, u76, u77, u78, u79, u80, u81, u82, u83, u84, u85, u86, u87, u88, u89, u90, u91, u92, u93, u94, u95, u96, u97, u98, u99, u100, u101, u102, u103, u104, u105, u106, u107, u108, u109, u110, u111, u112, u113, u114, u115, u116, u117, u118, u119, u120, u121, u122, u123, u124, u125, u126, u127, u128, u129, u130, u131, u132, u133, u134, u135, u136, u137, u138, u139, u140, u141, u142, u143, u144, u145, u146, u147, u148, u149, u150, u151, u152, u153, u154, u155, u156, u157, u158, u159, u160, u161, u162, u163, u164, u165, u166, u167, u168, u169, u170, u171, u172, u173, u174, u175, u176, u177, u178, u179, u180, u181, u182, u183, u184, u185, u186, u187, u188, u189, u190, u191, u192, u193, u194, u195, u196, u197, u198, u199, u200, u201, u202, u203, u204, u205, u206, u207, c208, c209, c210, c211, c212, c213, c214, c215, c216, c217, c218], defers := [] } W) :
    Code.wp Tryz.prog (longBlk 0) Q { tmps := #[c0, c1, c2, c3, .slice (some ⟨gq, 0, none⟩) n n, c5, c6, .slice Av k cv, .slice (some ⟨gu, 0, none⟩) N cu, .int .i64 k, .int .i64 ((n : Int) - 1), c11, c12, c13, c14, c15, c16, c17, c18, c19, c20, c21, c22, c23, c24, c25, c26, c27, c28, c29, c30, c31, c32, c33, c34, c35, c36, c37, c38, c39, c40, c41, c42, c43, c44, c45, c46, c47, c48, c49, c50, c51, c52, c53, c54, c55, c56, c57, c58, c59, c60, c61, c62, c63, c64, c65, c66, c67, c68, c69, c70, c71, c72, c73, c74, c75, c76, c77, c78, c79, c80, c81, c82, c83, c84, c85, c86, c87, c88, c89, c90, c91, c92, c93, c94, c95, c96, c97, c98, c99, c100, c101, c102, c103, c104, c105, c106, c107, c108, c109, c110, c111, c112, c113, c114, c115, c116, c117, c118, c119, c120, c121, c122, c123, c124, c125, c126, c127, c128, c129, c130, c131, c132, c133, c134, c135, c136, c137, c138, c139, c140, c141, c142, c143, c144, c145, c146, c147, c148, c149, c150, c151, c152, c153, c154, c155, c156, c157, c158, c159, c160, c161, c162, c163, c164, c165, c166, c167, c168, c169, c170, c171, c172, c173, c174, c175, c176, c177, c178, c179, c180, c181, c182, c183, c184, c185, c186, c187, c188, c189, c190, c191, c192, c193, c194, c195, c196, c197, c198, c199, c200, c201, c202, c203, c204, c205, c206, c207, c208, c209, c210, c211, c212, c213, c214, c215, c216, c217, c218], defers := [] } W0 := by
  have H0 := Lib.hid h0
  have HV := Lib.hid hv
  have HR := Lib.hid hR
  have HO := Lib.hid hO
  have HQ := Lib.hid hQ
  have HKK := Lib.hid hK
  have HNN := Lib.hid hn
  have hk2 := hv.two
  have hgs := World.ownsRow.lt hO gu rfl
  clear h0 hv hR hO hQ hK hn
  conv => arg 2; whnf
  go_wp2_with fail
  go_loopw [10] (fun ii wr => ∃ (j : Nat) (L Q' : List Int), ii = .int .i64 ((j : Int) - 1) ∧ LongOk v N n k T j L Q' ∧ IOwn wr Bu (.slice (some ⟨gu, 0, none⟩) N cu) L ∧ IOwn wr Bq (.slice (some ⟨gq, 0, none⟩) n n) Q' ∧ Below gu W0 wr) (fun ii _ => (intOf ii + 1).toNat)
  case atStart => exact ⟨n, L0, Q0, rfl, H0.out, HO.out, HQ.out, Below.refl _ _⟩
  case round =>
    clear HO HQ H0
    obtain ⟨j, L, Q', rfl, hI, hO, hQ, hB⟩ := hrel
    have HI := Lib.hid hI
    have HO := Lib.hid hO
    have HQ := Lib.hid hQ
    have HB := Lib.hid hB
    clear hI hO hQ hB
    rcases Nat.eq_zero_or_pos j with rfl | h0
    · have g0 : decide ((0 : Int) ≤ -1) = false := by decide
      rw [show ((0 : Nat) : Int) - 1 = -1 from rfl]
      go_wp2_with fail
      exact HKK.out L Q' _ _ _ _ _ _ _ _ _ _ _ _ _ _ _ _ _ _ _ _ _ _ _ _ _ _ _ _ _ _ _ _ _ _ _ _ _ _ _ _ _ _ _ _ _ _ _ _ _ _ _ _ _ _ _ _ _ _ _ _ _ _ _ _ _ _ _ _ _ _ _ _ _ _ _ _ _ _ _ _ _ _ _ _ _ _ _ _ _ _ _ _ _ _ _ _ _ _ _ _ _ _ _ _ _ _ _ _ _ _ _ _ _ _ _ _ _ _ _ _ _ _ _ _ _ _ _ _ _ _ _ _ _ _ _ _ _ _ _ _ _ _ _ _ _ _ _ _ _ _ _ _ _ _ _ _ _ _ _ _ _ _ _ _ _ _ HI.out HO.out HQ.out HB.out
    · clear HKK
      obtain ⟨i, rfl⟩ : ∃ s, j = s + 1 := ⟨j - 1, by omega⟩
      have hi1 : ((i + 1 : Nat) : Int) - 1 = (i : Int) := by omega
      rw [hi1]
      have g0 : decide ((0 : Int) ≤ (i : Int)) = true := decide_eq_true (by omega)
      have HRO := Lib.hid (HI.out.round HNN.out)
      have hfit := HRO.out.fit
      have hin : i < n := by have := HI.out.few; omega
      obtain ⟨pk, hpk⟩ : ∃ x, x = i + k := ⟨_, rfl⟩
      obtain ⟨p1, hp1⟩ : ∃ x, x = i + k - 1 := ⟨_, rfl⟩
      obtain ⟨kk1, hkk1⟩ : ∃ x, x = k - 1 := ⟨_, rfl⟩
      have hk1k : kk1 < k := by omega
      have hp1N : p1 < N := by omega
      have hpkN : pk < N := by omega
      have e1 : (k : Int) - 1 = (kk1 : Int) := by omega
      have e3 : (i : Int) + (k : Int) = (pk : Int) := by omega
      have e4 : (pk : Int) - 1 = (p1 : Int) := by omega
      have e1w : IntKind.i64.wrap (kk1 : Int) = (kk1 : Int) := Go.IntWalk.i64_in _ (by omega)
      have e3w : IntKind.i64.wrap (pk : Int) = (pk : Int) := Go.IntWalk.i64_in _ (by omega)
      have e4w : IntKind.i64.wrap (p1 : Int) = (p1 : Int) := Go.IntWalk.i64_in _ (by omega)
      obtain ⟨x1, hx1⟩ : ∃ x, x = dg v kk1 := ⟨_, rfl⟩
      obtain ⟨uk, huk⟩ : ∃ x, x = dg L pk := ⟨_, rfl⟩
      obtain ⟨u1, hu1⟩ : ∃ x, x = dg L p1 := ⟨_, rfl⟩
      have hr1 := HV.out.dig.digs k kk1 hk1k
      have htop := HV.out.top
      have hrk := HRO.out.dig.digs N pk hpkN
      have hru := HRO.out.dig.digs N p1 hp1N
      have hfi := HRO.out.first HV.out
      rw [← hpk, ← hkk1, ← hx1, ← huk] at hfi
      rw [← hkk1, ← hx1] at htop
      rw [← hx1] at hr1
      rw [← huk] at hrk
      rw [← hu1] at hru
      have HLL := Lib.hid HI.out.len
      have ck := HO.out.cellAt HLL.out hpkN
      rw [show L.getD pk 0 = uk from huk.symm] at ck
      have cc1 := HO.out.cellAt HLL.out hp1N
      rw [show L.getD p1 0 = u1 from hu1.symm] at cc1
      have hRw := HR.out.below HB.out
      obtain ⟨b, off, rfl, hbl, hcv⟩ := hRw.at_ (k := kk1) (by rw [HV.out.len]; exact hk1k)
      rw [← hx1] at hcv
      obtain ⟨hd, hhd⟩ : ∃ x, x = uk * 1073741824 + u1 := ⟨_, rfl⟩
      have hor := or_low uk u1 (by omega) hru
      rw [← hhd] at hor
      have hsh : wrap64 (uk * 1073741824) = uk * 1073741824 := wrap_in _ (by omega)
      have hsh2 : IntKind.i64.wrap (uk * 1073741824) = uk * 1073741824 := Go.IntWalk.i64_in _ (by omega)
      have hhr : 0 ≤ hd ∧ hd < 1152921504606846976 := by omega
      obtain ⟨q0, hq0⟩ : ∃ x, x = hd / x1 := ⟨_, rfl⟩
      have hq0r : 0 ≤ q0 ∧ q0 < 1152921504606846976 := by
        rw [hq0]
        exact ⟨Int.ediv_nonneg hhr.1 (by omega), Int.lt_of_le_of_lt (Int.ediv_le_self _ hhr.1) hhr.2⟩
      have t1 : hd.tdiv x1 = q0 := by rw [Int.tdiv_eq_ediv_of_nonneg hhr.1, hq0]
      have t1w : wrap64 q0 = q0 := wrap_in _ (by omega)
      have t1v : IntKind.i64.wrap q0 = q0 := Go.IntWalk.i64_in _ (by omega)
      have hxz : x1 ≠ 0 := by omega
      have hxz2 : (x1 == 0) = false := beq_eq_false_iff_ne.2 hxz
      have HG0 := Lib.hid (show hd = dg L (i + k) * 1073741824 + dg L (i + k - 1) by rw [hhd, huk, hu1, hpk, hp1])
      obtain ⟨g0v, hg0v⟩ : ∃ x, x = min q0 1073741823 := ⟨_, rfl⟩
      have HGU := Lib.hid (show qdig L v i k ≤ g0v ∧ g0v ≤ hd / dg v (k - 1) ∧ g0v ≤ 1073741823 ∧ hd - g0v * dg v (k - 1) < 2147483648 by
        have h1 := HRO.out.guess HV.out
        rw [← HG0.out, ← hkk1, ← hx1, ← hq0] at h1
        rw [← hkk1, ← hx1, ← hq0]
        have h2 := (guess_first (uk := uk) (u1 := u1) (v1 := x1) ⟨htop, hr1.2⟩ ⟨hrk.1, hfi⟩ hru).1
        rw [← hhd, ← hq0, ← hg0v] at h2
        exact ⟨by omega, by omega, by omega, h2⟩)
      have HIN := Lib.hid (InOk.first HRO.out HLL.out)
      have HPK := Lib.hid hpk
      have HMIN := Lib.hid hg0v
      clear hpk hp1 hkk1 hx1 huk hu1 hhd hq0 hg0v hfi htop hrk hru hr1 hRw
      go_upto_region 11 with (go_quiet (fail))
      have hO1 : IOwn (wr.drewN nq) Bu (.slice (some ⟨gu, 0, none⟩) N cu) L := HO.out
      have hQ1 : IOwn (wr.drewN nq) Bq (.slice (some ⟨gq, 0, none⟩) n n) Q' := HQ.out
      have hB1 : Below gu W0 (wr.drewN nq) := below_drewN HB.out nq
      have hcv1 : (wr.drewN nq).cell? ⟨b, off + kk1, none⟩ = some (.int .i64 x1) := hcv
      clear hcv ck cc1 HO HQ HB
      generalize wr.drewN nq = W1 at hO1 hQ1 hB1 hcv1 ⊢
      have HO := Lib.hid hO1
      have HQ := Lib.hid hQ1
      have HB := Lib.hid hB1
      clear hO1 hQ1 hB1
      have hmin : min q0 1073741823 = g0v := HMIN.out.symm
      go_upto_block 2 with fail
      clear hcv1 t1 t1w t1v hxz hxz2 hsh hsh2 hor hmin HMIN
      refine long_guess L v N i k Bu gu cu cv (some ⟨b, off, none⟩) hd g0v _ _ _ _ _ _ _ _ _ _ _ _ _ _ _ _ _ _ _ _ _ _ _ _ _ _ _ _ _ _ _ _ _ _ _ _ _ _ _ _ _ _ _ _ _ _ _ _ _ _ _ _ _ _ _ _ _ _ _ _ _ _ _ _ _ _ _ _ _ _ _ _ _ _ _ _ _ _ _ _ _ _ _ _ _ _ _ _ _ _ _ _ _ _ _ _ _ _ _ _ _ _ _ _ _ _ _ _ _ _ _ _ _ _ _ _ _ _ _ _ _ _ _ _ _ _ _ _ _ _ _ _ _ _ _ _ _ _ _ _ _ _ _ _ _ _ _ _ _ _ _ _ _ _ _ _ _ _ _ _ _ _ _ _ _ _ _ _ _ _ _ _ _ _ _ _ _ _ _ _ _ _ _ _ _ _ _ _ _ _ _ _ _ _ _ _ _ _ _ _ _ _ _ _ _ _ _ _ _ _ _ _ _ _ HRO.out HLL.out hN HV.out HG0.out HGU.out HO.out (HR.out.below HB.out) ?_
      intro g _ _ _ _ _ _ _ _ _ _ _ _ _ _ _ _ _ _ _ _ _ _ _ _ _ _ _ _ _ _ _ _ _ _ _ _ _ _ _ _ W2 hgr hO2 hN2
      have hzW1 : gu < W1.heap.size := (World.ownsRow.lt HO.out gu rfl).2
      have HO2 := Lib.hid hO2
      have HQ2 := Lib.hid (iown_only HQ.out hN2 (Ne.symm hgq))
      have HB2 := Lib.hid (HB.out.trans (hN2.toBelow (Nat.le_of_lt hzW1) (Nat.le_refl _)))
      clear hO2 hN2 HO HQ HB hzW1
      dsimp only [Exit.then]
      have hq0 := (HRO.out.guess HV.out).1
      go_upto_block 4 with fail
      refine long_owed L L v N i k Bu gu cu cv (some ⟨b, off, none⟩) g (dg L (i + k)) _ _ _ _ _ _ _ _ _ _ _ _ _ _ _ _ _ _ _ _ _ _ _ _ _ _ _ _ _ _ _ _ _ _ _ _ _ _ _ _ _ _ _ _ _ _ _ _ _ _ _ _ _ _ _ _ _ _ _ _ _ _ _ _ _ _ _ _ _ _ _ _ _ _ _ _ _ _ _ _ _ _ _ _ _ _ _ _ _ _ _ _ _ _ _ _ _ _ _ _ _ _ _ _ _ _ _ _ _ _ _ _ _ _ _ _ _ _ _ _ _ _ _ _ _ _ _ _ _ _ _ _ _ _ _ _ _ _ _ _ _ _ _ _ _ _ _ _ _ _ _ _ _ _ _ _ _ _ _ _ _ _ _ _ _ _ _ _ _ _ _ _ _ _ _ _ _ _ _ _ _ _ _ _ _ _ _ _ _ _ _ _ _ _ _ _ _ _ _ _ _ _ _ _ _ _ _ _ _ _ _ _ (HIN.out g) hN hfit HV.out ⟨by omega, hgr.2.2⟩ HO2.out (HR.out.below HB2.out) ?_
      intro o L2 _ _ _ _ _ _ _ _ _ _ _ _ _ _ _ _ _ _ _ _ _ _ _ _ _ _ _ _ _ _ W3 hi3 hor hO3 hN3
      have hzW2 : gu < W2.heap.size := (World.ownsRow.lt HO2.out gu rfl).2
      have HO3 := Lib.hid hO3
      have HQ3 := Lib.hid (iown_only HQ2.out hN3 (Ne.symm hgq))
      have HB3 := Lib.hid (HB2.out.trans (hN3.toBelow (Nat.le_of_lt hzW2) (Nat.le_refl _)))
      have HL3 := Lib.hid hi3.len
      have HLA := Lib.hid (hi3.last hfit HV.out.len)
      have htop := hi3.top
      clear hO3 hN3 HO2 HQ2 HB2 hzW2 hi3
      dsimp only [Exit.then]
      rw [← HPK.out] at HLA htop
      obtain ⟨E, hE⟩ : ∃ x, x = dg L pk + o := ⟨_, rfl⟩
      rw [← hE] at HLA
      have hE1 : dg L pk + o = E := hE.symm
      have ck := HO3.out.cellAt HL3.out hpkN
      rw [show L2.getD pk 0 = dg L pk from htop] at ck
      have fk := HO3.out.frozenAt HL3.out pk
      obtain ⟨uk2, huk2⟩ : ∃ x, x = dg L pk := ⟨_, rfl⟩
      have hrk := HRO.out.dig.digs N pk hpkN
      rw [← huk2] at ck hE1 hrk
      have hEw : wrap64 E = E := wrap_in _ (by omega)
      have hEv : IntKind.i64.wrap E = E := Go.IntWalk.i64_in _ (by omega)
      clear hE htop huk2
      go_upto_region 22 with fail
      obtain ⟨hO4, -⟩ := HO3.out.set HL3.out pk E
      have hQ4 : IOwn (W3.setCell ⟨gu, pk, none⟩ (.int .i64 E)) Bq (.slice (some ⟨gq, 0, none⟩) n n) Q' := iown_only HQ3.out ((Only.refl _ gu).set (p := ⟨gu, pk, none⟩) (.inl rfl) _) (Ne.symm hgq)
      have hB4 : Below gu W0 (W3.setCell ⟨gu, pk, none⟩ (.int .i64 E)) := HB3.out.setCell (p := ⟨gu, pk, none⟩) (Nat.le_refl _) _
      clear ck fk HO3 HQ3 HB3
      generalize W3.setCell ⟨gu, pk, none⟩ (.int .i64 E) = W4 at hO4 hQ4 hB4 ⊢
      have hL4 : (L2.set pk E).length = N := by rw [List.length_set]; exact HL3.out
      have hdk : (L2.set pk E).getD pk 0 = E := by
        have := dg_set (l := L2) (i := pk) (by rw [HL3.out]; exact hpkN) E pk
        rw [if_pos rfl] at this
        exact this
      have ck := hO4.cellAt hL4 hpkN
      rw [hdk] at ck
      have fk := hO4.frozenAt hL4 pk
      have HO4 := Lib.hid hO4
      have HQ4 := Lib.hid hQ4
      have HB4 := Lib.hid hB4
      have HL4 := Lib.hid hL4
      have HQL := Lib.hid HI.out.qlen
      clear hO4 hQ4 hB4 hL4 hdk
      have hsg := HLA.out.sign HRO.out HV.out ⟨hgr.1, hgr.2.1⟩
      rcases Int.lt_or_le E 0 with hs | hs
      · have g2 : decide (E < 0) = true := decide_eq_true hs
        have HF := Lib.hid (hsg.1 hs).1
        clear hsg
        go_upto_block 6 with fail
        refine long_over (L2.set pk E) (L2.set pk E) v N i k Bu gu cu cv (some ⟨b, off, none⟩) E _ _ _ _ _ _ _ _ _ _ _ _ _ _ _ _ _ _ _ _ _ _ _ _ _ _ _ _ _ _ _ _ _ _ _ _ _ _ _ _ _ _ _ _ _ _ _ _ _ _ _ _ _ _ _ _ _ _ _ _ _ _ _ _ _ _ _ _ _ _ _ _ _ _ _ _ _ _ _ _ _ _ _ _ _ _ _ _ _ _ _ _ _ _ _ _ _ _ _ _ _ _ _ _ _ _ _ _ _ _ _ _ _ _ _ _ _ _ _ _ _ _ _ _ _ _ _ _ _ _ _ _ _ _ _ _ _ _ _ _ _ _ _ _ _ _ _ _ _ _ _ _ _ _ _ _ _ _ _ _ _ _ _ _ _ _ _ _ _ _ _ _ _ _ _ _ _ _ _ _ _ _ _ _ _ _ _ _ _ _ _ _ _ _ _ _ _ _ _ _ _ _ _ _ _ _ _ _ _ _ _ _ _ HLA.out.again hN hfit HV.out HO4.out (HR.out.below HB4.out) ?_
        intro o2 L5 _ _ _ _ _ _ _ _ _ _ _ _ _ _ _ _ _ _ _ _ _ _ _ _ _ _ _ _ W5 hi5 hor5 hO5 hN5
        have hzW4 : gu < W4.heap.size := (World.ownsRow.lt HO4.out gu rfl).2
        have HO5 := Lib.hid hO5
        have HQ5 := Lib.hid (iown_only HQ4.out hN5 (Ne.symm hgq))
        have HB5 := Lib.hid (HB4.out.trans (hN5.toBelow (Nat.le_of_lt hzW4) (Nat.le_refl _)))
        have HL5 := Lib.hid hi5.len
        have HLB := Lib.hid (HLA.out.both (hi5.last hfit HV.out.len))
        have htop := hi5.top
        clear hO5 hN5 HO4 HQ4 HB4 hzW4 hi5 ck fk
        dsimp only [Exit.then]
        rw [← HPK.out] at HLB htop
        obtain ⟨E2, hE2⟩ : ∃ x, x = E + o2 := ⟨_, rfl⟩
        rw [← hE2] at HLB
        have hE1 : E + o2 = E2 := hE2.symm
        have ck := HO5.out.cellAt HL5.out hpkN
        rw [show L5.getD pk 0 = E from htop] at ck
        have fk := HO5.out.frozenAt HL5.out pk
        have hEw2 : wrap64 E2 = E2 := wrap_in _ (by omega)
        have hEv2 : IntKind.i64.wrap E2 = E2 := Go.IntWalk.i64_in _ (by omega)
        have HFF := Lib.hid (show g - 1 = qdig L v i k by rw [HF.out]; omega)
        obtain ⟨gg, hgg⟩ : ∃ x, x = g - 1 := ⟨_, rfl⟩
        have hgg1 : g - 1 = gg := hgg.symm
        rw [← hgg] at HFF HLB
        have HNX := Lib.hid (HI.out.next HNN.out HV.out HLB.out HFF.out)
        clear hE2 htop hgg HF HLB
        go_upto_region 32 with fail
        obtain ⟨hO6, -⟩ := HO5.out.set HL5.out pk E2
        have hQ6 : IOwn (W5.setCell ⟨gu, pk, none⟩ (.int .i64 E2)) Bq (.slice (some ⟨gq, 0, none⟩) n n) Q' := iown_only HQ5.out ((Only.refl _ gu).set (p := ⟨gu, pk, none⟩) (.inl rfl) _) (Ne.symm hgq)
        have hB6 : Below gu W0 (W5.setCell ⟨gu, pk, none⟩ (.int .i64 E2)) := HB5.out.setCell (p := ⟨gu, pk, none⟩) (Nat.le_refl _) _
        clear ck fk HO5 HQ5 HB5
        generalize W5.setCell ⟨gu, pk, none⟩ (.int .i64 E2) = W6 at hO6 hQ6 hB6 ⊢
        have cq := hQ6.cellAt HQL.out hin
        have fq := hQ6.frozenAt HQL.out i
        obtain ⟨hQ7, -⟩ := hQ6.set HQL.out i gg
        have hO7 : IOwn (W6.setCell ⟨gq, i, none⟩ (.int .i64 gg)) Bu (.slice (some ⟨gu, 0, none⟩) N cu) (L5.set pk E2) := iown_only hO6 ((Only.refl _ gq).set (p := ⟨gq, i, none⟩) (.inl rfl) _) hgq
        have hB7 : Below gu W0 (W6.setCell ⟨gq, i, none⟩ (.int .i64 gg)) := hB6.setCell (p := ⟨gq, i, none⟩) hguq _
        have HO7 := Lib.hid hO7
        have HQ7 := Lib.hid hQ7
        have HB7 := Lib.hid hB7
        clear hO6 hQ6 hB6 hO7 hQ7 hB7
        go_wp2_with fail
        go_roundw
        case rel => exact ⟨i, L5.set pk E2, Q'.set i gg, by go_num, HNX.out, HO7.out, HQ7.out, HB7.out⟩
        case measure => simp [intOf]
      · have g2 : decide (E < 0) = false := decide_eq_false (by omega)
        have HF := Lib.hid (hsg.2 (by omega)).1
        clear hsg
        have HNX := Lib.hid (HI.out.next HNN.out HV.out HLA.out HF.out)
        have cq := HQ4.out.cellAt HQL.out hin
        have fq := HQ4.out.frozenAt HQL.out i
        obtain ⟨hQ7, -⟩ := HQ4.out.set HQL.out i g
        have hO7 : IOwn (W4.setCell ⟨gq, i, none⟩ (.int .i64 g)) Bu (.slice (some ⟨gu, 0, none⟩) N cu) (L2.set pk E) := iown_only HO4.out ((Only.refl _ gq).set (p := ⟨gq, i, none⟩) (.inl rfl) _) hgq
        have hB7 : Below gu W0 (W4.setCell ⟨gq, i, none⟩ (.int .i64 g)) := HB4.out.setCell (p := ⟨gq, i, none⟩) hguq _
        have HO7 := Lib.hid hO7
        have HQ7 := Lib.hid hQ7
        have HB7 := Lib.hid hB7
        clear hO7 hQ7 hB7
        go_wp2_with fail
        go_roundw
        case rel => exact ⟨i, L2.set pk E, Q'.set i g, by go_num, HNX.out, HO7.out, HQ7.out, HB7.out⟩
        case measure => simp [intOf]
end Go.Proofs.YtkkcbkfpaoldmaaGreatDoor

/- Walk: nat.long. -/
namespace Go.Proofs.YtkkcbkfpaoldmaaGreatDoor
open Go Go.RowKit

/-- Quotient and rest. -/
def DivPost (a b : List Int) (w : World) (e : Ending) (w' : World) : Prop :=
  ∃ (q r : List Int) (Aq Ar : Option Addr) (cq cr : Nat), e = .returned (.tuple #[.slice Aq q.length cq, .slice Ar r.length cr]) ∧ valL q = valL a / valL b ∧ valL r = valL a % valL b ∧
    BigOk w' w'.heap.size false Aq q.length cq q ∧ BigOk w' w'.heap.size false Ar r.length cr r ∧ (∀ b, Aq = some b → w.heap.size ≤ b.block) ∧ Below w.heap.size w w'
/-- Two digits 0 are put behind digits of the call's own. -/
theorem app_digs2 {ops : Array Oper} {rest : List Oper} {o : Oper} {a : Act} {Q : Exit → Act → World → Prop} (hgd : o.guard = none) (s x : Operand) (ho : o.op = .call { callee := .builtin .append, args := #[s, x], argTypes := #[131, 131] })
    (base : Nat) {w : World} (v : Value) (l : List Int) (hs : a.eval s = v) (hown : IOwn w base v l) (y z : Int) {g : Nat} {t : TypeId} (hg : Blk w g t #[.int .i64 y, .int .i64 z])
    (hx : a.eval x = .slice (some ⟨g, 0, none⟩) 2 2) (h47 : l.length + 2 ≤ 1000000000000) (hbase : base ≤ w.heap.size)
    (h : ∀ v' w', IOwn w' base v' (l ++ [y, z]) → Grew w w' v v' → wpList Tryz.prog ops Q rest (a.put o.dst v') w') : wpList Tryz.prog ops Q (o :: rest) a w := by
  have hR : Rd w w.heap.size (some ⟨g, 0, none⟩) (2 * 1) (fun k => if k = 0 then .int .i64 y else .int .i64 z) := Rd.of_blk hg hg.lt fun k hk => by
    rcases k with _ | _ | k <;> first | rfl | omega
  have hsrc := src_rd (P := Tryz.prog) w (size := 1) (tx := 131) (n := 2) (c := 2) Tryz.underlying131 hR (by omega) (fun k hk => by
    rcases k with _ | _ | k <;> first | rfl | omega)
  exact wpList_append_src w hgd s x 131 131 ho base 3 iInfo (.int .i64 0) 1 8 Tryz.underlying131 iInfo_eq iInfo_zero iInfo_size iInfo_bytes rfl v l.length (icells l) hs hown _ 2 [.int .i64 y, .int .i64 z] hx hsrc
    (by simp only [maxLen]; omega) (by omega) hbase fun v' w' h1 h2 => h v' w' (by
      show World.ownsRow w' base 3 1 v' (l ++ [y, z]).length (icells (l ++ [y, z]))
      rw [icells_append, List.length_append]; exact h1) h2
theorem val_two_zeros (l : List Int) (n : Nat) (h : l.length ≤ n) : dsum (dg (l ++ [0, 0])) n = valL l := by
  rw [← valL_more h]
  refine dsum_congr fun i _ => ?_
  simp only [dg, List.getD_eq_getElem?_getD]
  rcases Nat.lt_or_ge i l.length with h1 | h1
  · rw [List.getElem?_append_left h1]
  · rw [List.getElem?_append_right h1, List.getElem?_eq_none h1]
    rcases i - l.length with _ | _ | j <;> rfl
theorem iown_cons {w : World} {base : Nat} {v : Value} {l : List Int} {n : Nat} (h : IOwn w base v l) (hn : l.length = n) (h0 : 0 < n) : ∃ g c, v = .slice (some ⟨g, 0, none⟩) n c ∧ base ≤ g ∧ n ≤ c ∧ c ≤ maxLen := by
  subst hn
  rcases h.2 with ⟨-, e⟩ | ⟨g, cap, cur, e, hb, -, hnc, hcm, -⟩
  · omega
  · exact ⟨g, cap, e, hb, hnc, hcm⟩
/-- How long a number is that has been moved. -/
theorem moved_len {a u : List Int} {la s : Nat} (ha : a.length = la) (hda : DigL a) (ta : TrimL a) (hla : 1 ≤ la) (hs : s < 30) (hdu : DigL u) (tu : TrimL u) (e : valL u = valL a * 2 ^ s) : la ≤ u.length ∧ u.length ≤ la + 1 := by
  obtain ⟨m, rfl⟩ : ∃ m, la = m + 1 := ⟨la - 1, by omega⟩
  have h1 := valL_top hda ta ha
  have h2 := (valL_range hda).2
  have h0 := two_pow_le s hs
  have hp := bp_pos m
  have h3 : valL a * 1 ≤ valL a * 2 ^ s := Int.mul_le_mul_of_nonneg_left h0.1 (by omega)
  have h4 : valL a * 2 ^ s ≤ valL a * 536870912 := Int.mul_le_mul_of_nonneg_left h0.2 (by omega)
  constructor
  · rcases Nat.lt_or_ge u.length (m + 1) with h | h
    · have h5 := (valL_range hdu).2
      have h6 : bp u.length ≤ bp m := bp_mono (by omega)
      omega
    · exact h
  · rcases Nat.lt_or_ge (m + 1 + 1) u.length with h | h
    · obtain ⟨n, hn⟩ : ∃ n, u.length = n + 1 := ⟨u.length - 1, by omega⟩
      have h5 := valL_top hdu tu hn
      have h6 : bp (m + 1 + 1) ≤ bp n := bp_mono (by omega)
      rw [bp_succ] at h6
      rw [ha] at h2
      omega
    · exact h
theorem digL_app {l m : List Int} (hl : DigL l) (hm : DigL m) : DigL (l ++ m) := fun x hx => by
  rcases List.mem_append.1 hx with h | h
  · exact hl x h
  · exact hm x h
theorem hb_pos {l : List Int} (hd : DigL l) (ht : TrimL l) (h : 0 < l.length) : 0 < valL l := (valL_pos hd ht).2 (by rintro rfl; simp at h)
/-- A quotient is no longer than the dividend. -/
theorem quo_len {a q : List Int} {d : Int} (hda : DigL a) (hdq : DigL q) (tq : TrimL q) (e : valL q = valL a / d) : q.length ≤ a.length := by
  rcases Nat.lt_or_ge a.length q.length with h | h
  · obtain ⟨n, hn⟩ : ∃ n, q.length = n + 1 := ⟨q.length - 1, by omega⟩
    have h1 := valL_top hdq tq hn
    have h2 := valL_range hda
    have h3 : bp a.length ≤ bp n := bp_mono (by omega)
    have h4 : valL a / d ≤ valL a := Int.ediv_le_self _ h2.1
    omega
  · exact h
theorem rest_len {b r : List Int} {x : Int} (hdb : DigL b) (hdr : DigL r) (tr : TrimL r) (hb : 0 < valL b) (e : valL r = x % valL b) : r.length ≤ b.length := by
  rcases Nat.lt_or_ge b.length r.length with h | h
  · obtain ⟨n, hn⟩ : ∃ n, r.length = n + 1 := ⟨r.length - 1, by omega⟩
    have h1 := valL_top hdr tr hn
    have h2 := (valL_range hdb).2
    have h3 : bp b.length ≤ bp n := bp_mono (by omega)
    have h4 := Int.emod_lt_of_pos x hb
    omega
  · exact h
set_option maxRecDepth 1000000 in
set_option linter.unusedSimpArgs false in
set_option linter.unusedVariables false in
set_option maxHeartbeats 8000000 in
theorem long_any (A B : Option Addr) (a b : List Int) (la lb ca cb : Nat) (w : World) (ha : BigOk w w.heap.size false A la ca a) (hb : BigOk w w.heap.size false B lb cb b) (h2 : 2 ≤ lb) (hab : lb ≤ la) :
    Calls Tryz.prog 105 #[.slice A la ca, .slice B lb cb] w (DivPost a b w) := by
  obtain ⟨top, htop⟩ : ∃ x : Nat, dg b (lb - 1) = (x : Int) := ⟨(dg b (lb - 1)).toNat, by have := (hb.dig.digs lb (lb - 1) (by omega)).1; omega⟩
  have htr := hb.dig.digs lb (lb - 1) (by omega)
  have ht0 : dg b (lb - 1) ≠ 0 := by
    have := hb.trim (by rw [← hb.len]; omega)
    rwa [← hb.len] at this
  rw [htop] at htr ht0
  obtain ⟨s, hs, hs1, hs2, hs3⟩ := lead_digit top (by omega) (by omega)
  have hs2' : (1073741824 : Int) ≤ 2 * (dg b (lb - 1) * 2 ^ s) := by
    rw [htop]
    have e : ((top * 2 ^ s : Nat) : Int) = (top : Int) * 2 ^ s := by simp
    omega
  have hs3' : dg b (lb - 1) * 2 ^ s < 1073741824 := by
    rw [htop]
    have e : ((top * 2 ^ s : Nat) : Int) = (top : Int) * 2 ^ s := by simp
    omega
  obtain ⟨l1, hl1⟩ : ∃ x, x = lb - 1 := ⟨_, rfl⟩
  have e1 : (lb : Int) - 1 = (l1 : Int) := by omega
  have hl1b : l1 < lb := by omega
  have hfa := ha.few
  have hfb := hb.few
  obtain ⟨bb, ob, rfl, hbb, hcb⟩ := hb.rd.at_ (k := l1) (by rw [← hb.len]; exact hl1b)
  rw [hl1, htop, ← hl1] at hcb
  obtain ⟨z, hz⟩ : ∃ x : Int, x = 64 - (Lib.bitLen top : Int) := ⟨_, rfl⟩
  have HLZ := Lib.hid (fun W => (bits_LeadingZeros64 (top : Int) W (by omega) (by omega)).mono (R' := fun e w' => e = .returned (.int .i64 z) ∧ W = w') (fun e w' ⟨h1, h2⟩ => ⟨by rw [h1, hz]; rfl, h2.symm⟩))
  have hz1 : z - 34 = (s : Int) := by omega
  have hz2 : 34 ≤ z ∧ z ≤ 64 := by omega
  have HA := Lib.hid ha
  have HB := Lib.hid hb
  have HS2 := Lib.hid hs2'
  have HS3 := Lib.hid hs3'
  clear ha hb hs2 hs3 hs2' hs3' ht0 hl1 htop hz hs1
  go_enter Tryz.func105, Tryz.ntmps105
  go_wp2_with fail
  refine (HLZ.out w).mono ?_
  rintro e w' ⟨rfl, rfl⟩
  go_wp2_with fail
  refine (moved_any (some ⟨bb, ob, none⟩) b lb cb s HB.out.len (by omega) hs HB.out.dig w HB.out.rd).mono ?_
  rintro e w1 ⟨v, Av, cv, rfl, hvc, hvc2, -, hdv, tv, hvv, hvo, hb1⟩
  have hdok := div_moved HB.out.dig HB.out.len.symm h2 hs HS2.out HS3.out hdv tv hvv
  have hvl := hdok.len
  have hvr := hvo.mrd rfl
  rw [hvl] at hvc hvo ⊢
  have HDO := Lib.hid hdok
  have HVR := Lib.hid hvr
  have HVV := Lib.hid hvv
  have HB1 := Lib.hid hb1
  have HAR := Lib.hid ((HA.out.rd.below hb1).more hb1.size)
  clear hdok hvl hvr hvv hvo hb1 hdv tv hz1 hz2 hcb HLZ
  go_wp2_with fail
  refine (moved_any A a la ca s HA.out.len (by omega) hs HA.out.dig w1 HAR.out).mono ?_
  rintro e w2 ⟨u, Au, cu, rfl, huc, huc2, -, hdu, tu, huv, huo, hb2⟩
  have hul := moved_len HA.out.len.symm HA.out.dig HA.out.trim (by omega) hs hdu tu huv
  obtain ⟨ul, hule⟩ : ∃ x, x = u.length := ⟨_, rfl⟩
  rw [← hule] at huc huo hul ⊢
  have HUL := Lib.hid hule
  have HUV := Lib.hid huv
  have HUD := Lib.hid hdu
  have HB2 := Lib.hid hb2
  have hz12 := hb2.size
  have hbs : w1.heap.size ≤ (w2.alloc (.cells #[.int .i64 0, .int .i64 0] 3)).heap.size := by simp only [World.size_alloc]; omega
  have HUO := Lib.hid (IOwn.alloc huo (.cells #[.int .i64 0, .int .i64 0] 3))
  have HLO := Lib.hid (fun g e => World.ownsRow.lt huo g e)
  clear hule huv hdu huo hb2 tu
  obtain ⟨N, hN⟩ : ∃ x, x = la + 1 := ⟨_, rfl⟩
  have hN1 : (la : Int) + 1 = (N : Int) := by omega
  obtain ⟨n, hn⟩ : ∃ x, x = la - lb + 1 := ⟨_, rfl⟩
  obtain ⟨n1, hn1⟩ : ∃ x, x = la - lb := ⟨_, rfl⟩
  have hn2 : (la : Int) - (lb : Int) = (n1 : Int) := by omega
  have hn3 : (n1 : Int) + 1 = (n : Int) := by omega
  have hNul : N ≤ ul + 2 := by omega
  have HN := Lib.hid hN
  have HNN := Lib.hid hn
  have HUT : Hid (∀ (W : World) (B : Nat) (g c : Nat), IOwn W B (.slice (some ⟨g, 0, none⟩) (ul + 2) c) (u ++ [0, 0]) → IOwn W B (.slice (some ⟨g, 0, none⟩) N c) ((u ++ [0, 0]).take N)) := Lib.hid (fun W B g c h => h.cut (by simp; exact HUL.out.symm) hNul)
  clear hN hn hn1
  go_upto_block 0 with (first
    | (at_builtin; refine app_digs2 rfl _ _ rfl w1.heap.size (.slice Au ul cu) u rfl HUO.out 0 0 (Blk.new _ _ _) rfl (by rw [← HUL.out]; omega) hbs ?_; intro v7 w7 hown7 hg7; obtain ⟨gu, c7, rfl, hgb, hc7, hc7m⟩ := iown_cons hown7 (n := ul + 2) (by simp; exact HUL.out.symm) (by omega); have hNc : N ≤ c7 := Nat.le_trans hNul hc7; have hB7 := hg7.alloc_first; have HO7 := Lib.hid (HUT.out _ _ _ _ hown7); have HG7 := Lib.hid hg7; clear hown7 hg7 hB7)
    | (refine make_dig rfl _ rfl w7.heap.size n rfl (by omega) (Nat.le_refl _) ?_; intro w8 hown8 hg8; have HO8 := Lib.hid hown8; have HG8 := Lib.hid hg8; clear hown8 hg8)
    | (fail))
  have hzu := HO7.out.lt gu rfl
  have hB7 : Below w1.heap.size w1 w7 := (HB2.out.alloc (by omega) _).trans (HG7.out.below hbs (fun g e => (HLO.out g e).1))
  have hB8 : Below w7.heap.size w7 w8 := ⟨HG8.out.os, HG8.out.tape, HG8.out.output, HG8.out.size, fun i hi => HG8.out.block i hi (by simp)⟩
  have hz7 := hB7.size
  have hB18 := hB7.trans (hB8.mono hz7)
  have hO8 := iown_kept HO7.out HG8.out (fun r e => by cases e)
  have hR8 : MRd w8 gu Av v := (HVR.out.below hB18).more hgb
  have hL0 : ((u ++ [0, 0]).take N).length = N := by rw [List.length_take, List.length_append, ← HUL.out]; simp only [List.length_cons, List.length_nil]; omega
  have hD0 : DigL ((u ++ [0, 0]).take N) := (digL_app HUD.out (fun x hx => by simp at hx; omega)).take N
  have hV0 : dsum (dg ((u ++ [0, 0]).take N)) N = valL a * 2 ^ s := by
    rw [dsum_congr (fun i hi => dg_take hi), val_two_zeros u N (by rw [← HUL.out, HN.out]; omega), HUV.out]
  obtain ⟨L0, hL0e⟩ : ∃ x, x = (u ++ [0, 0]).take N := ⟨_, rfl⟩
  rw [← hL0e] at hO8 hL0 hD0 hV0
  have hRO := start_ok HA.out.dig HA.out.len.symm hab hs HDO.out hD0 (by rw [hL0, HN.out]) (by rw [← HN.out]; exact hV0)
  have hLO : LongOk v N n lb (valL a * 2 ^ s) n L0 (List.replicate n 0) := by
    refine ⟨Nat.le_refl _, hL0, hD0, fun x hx => dg_out (by rw [hL0]; have := HN.out; have := HNN.out; omega), ?_, by simp, digL_zeros n, fun x _ => dg_zeros n x, ?_⟩
    · have := hRO.less
      rw [← HN.out, ← HNN.out] at this
      exact this
    · rw [dsum_zeros', hV0]
      omega
  have hB08 : Below w.heap.size w w8 := HB1.out.trans (hB18.mono HB1.out.size)
  have HB08 := Lib.hid hB08
  have hzw : w.heap.size ≤ w1.heap.size := HB1.out.size
  refine long_rounds L0 (List.replicate n 0) v N n lb w1.heap.size w7.heap.size gu w7.heap.size c7 cv Av (valL a * 2 ^ s) w8 _ _ _ _ _ _ _ _ _ _ _ _ _ _ _ _ _ _ _ _ _ _ _ _ _ _ _ _ _ _ _ _ _ _ _ _ _ _ _ _ _ _ _ _ _ _ _ _ _ _ _ _ _ _ _ _ _ _ _ _ _ _ _ _ _ _ _ _ _ _ _ _ _ _ _ _ _ _ _ _ _ _ _ _ _ _ _ _ _ _ _ _ _ _ _ _ _ _ _ _ _ _ _ _ _ _ _ _ _ _ _ _ _ _ _ _ _ _ _ _ _ _ _ _ _ _ _ _ _ _ _ _ _ _ _ _ _ _ _ _ _ _ _ _ _ _ _ _ _ _ _ _ _ _ _ _ _ _ _ _ _ _ _ _ _ _ _ _ _ _ _ _ _ _ _ _ _ _ _ _ _ _ _ _ _ _ _ _ _ _ _ _ _ _ _ _ _ _ _ _ _ _ _ _ _ _ _ _ _ _ _ _ _ _ hLO (by omega) (by have := HN.out; have := HNN.out; omega) HDO.out hO8 HO8.out (by omega) (by omega) hR8 ?_
  intro L Q' _ _ _ _ _ _ _ _ _ _ _ _ _ _ _ _ _ _ _ _ _ _ _ _ _ _ _ _ _ _ _ _ _ _ _ _ _ _ _ _ _ _ _ _ _ _ _ _ _ _ _ _ _ _ _ _ _ _ _ _ _ _ _ _ _ _ _ _ _ _ _ _ _ _ _ _ _ _ _ _ _ _ _ _ _ _ _ _ _ _ _ _ _ _ _ _ _ _ _ _ _ _ _ _ _ _ _ _ _ _ _ _ _ _ _ _ _ _ _ _ _ _ _ _ _ _ _ _ _ _ _ _ _ _ _ _ _ _ _ _ _ _ _ _ _ _ _ _ _ _ _ _ _ _ _ _ _ _ _ _ _ _ _ _ _ W9 hI9 hO9 hQ9 hB9
  dsimp only [Exit.then]
  have hdv := scaled_div (a := valL a) (b := valL b) (s := 2 ^ s) (q := valL Q') (R := dsum (dg L) N) (by
      have h := hb_pos HB.out.dig HB.out.trim (by rw [← HB.out.len]; omega)
      exact h) (by have := two_pow_le s hs; omega) (by
      have h := hI9.sum
      rw [HVV.out] at h
      rw [valL, hI9.qlen]
      exact h) ⟨(dsum_range (hI9.dig.digs N)).1, by
      have h := hI9.less
      rw [HVV.out] at h
      simpa [bp] using h⟩
  have hB9w : Below w.heap.size w W9 := hB08.trans (hB9.mono (by omega))
  obtain ⟨d, hd⟩ : ∃ x : Int, x = 2 ^ s := ⟨_, rfl⟩
  have hpw := two_pow_le s hs
  rw [← hd] at hpw hdv
  have HDD := Lib.hid hd
  have HDV := Lib.hid hdv
  have hLl := hI9.len
  have hLd := hI9.dig
  have hQl := hI9.qlen
  have hQd := hI9.qdigs
  have hzu9 := (World.ownsRow.lt hO9 gu rfl).2
  have hzq9 := (World.ownsRow.lt hQ9 w7.heap.size rfl).2
  obtain ⟨m, hm⟩ : ∃ x, x = tlen L N := ⟨_, rfl⟩
  have hmN : m ≤ N := by rw [hm]; exact tlen_le _ _
  have hmt : (trimmed L).length = m := by rw [trimmed_len, hLl, hm]
  have hmv : valL (trimmed L) = dsum (dg L) N := by rw [trimmed_val, valL, hLl]
  have HTR : Hid (∀ W, Below W9.heap.size W9 W → Calls Tryz.prog 104 #[.slice (some ⟨gu, 0, none⟩) N c7] W (Ret (.slice (some ⟨gu, 0, none⟩) m c7) W)) := Lib.hid (fun W hW => by
    have h := trim_any (some ⟨gu, 0, none⟩) L N c7 hLl.symm hNc (by simp only [maxLen] at hc7m; omega) (by omega) W (((mrd_own hO9 hLl).below hW).more hW.size)
    rw [← hm] at h
    exact h)
  have HSH : Hid (∀ W, Below W9.heap.size W9 W → Calls Tryz.prog 103 #[.slice (some ⟨gu, 0, none⟩) m c7, .int .i64 d] W (ShortPost (trimmed L) d W)) := Lib.hid (fun W hW =>
    short_any (some ⟨gu, 0, none⟩) (trimmed L) m c7 hmt.symm (by omega) (trimmed_dig hLd) d ⟨by omega, by omega⟩ W (((mrd_own hO9 hLl).trimmed.below hW).more hW.size))
  obtain ⟨nq, hnq⟩ : ∃ x, x = tlen Q' n := ⟨_, rfl⟩
  have hnq2 : nq ≤ n := by rw [hnq]; exact tlen_le _ _
  have HTQ : Hid (∀ W, Below W9.heap.size W9 W → Calls Tryz.prog 104 #[.slice (some ⟨w7.heap.size, 0, none⟩) n n] W (Ret (.slice (some ⟨w7.heap.size, 0, none⟩) nq n) W)) := Lib.hid (fun W hW => by
    have h := trim_any (some ⟨w7.heap.size, 0, none⟩) Q' n n hQl.symm (Nat.le_refl _) (by omega) (by omega) W (((mrd_own hQ9 hQl).below hW).more hW.size)
    rw [← hnq] at h
    exact h)
  have hqt : (trimmed Q').length = nq := by rw [trimmed_len, hQl, hnq]
  have HQR := Lib.hid ((mrd_own hQ9 hQl).trimmed)
  have HQT := Lib.hid hqt
  have HMV := Lib.hid hmv
  have HMT := Lib.hid hmt
  have HB9 := Lib.hid hB9w
  have HI9 := Lib.hid hI9
  clear hdv hd hLl hLd hQl hQd hm hmt hmv hnq hqt hI9 hO9 hQ9 hB9 hB9w hB08 hRO hLO hV0 hD0 hL0 hL0e hO8 hR8 hB18 hB8 hB7 HB08 HO7 HG7 HO8 HG8 HVR
  go_upto_region 33 with fail
  refine wp_region_held_drew (S := fun _ => True) (by kernel_rfl) trivial (fun hS => ?_)
  have HB9d := Lib.hid (HB9.out.drew)
  have HBd := Lib.hid (show Below W9.heap.size W9 W9.drew from (Below.refl _ _).drew)
  refine wpAnyH_take (i := 0) (v := .slice (some ⟨gu, 0, none⟩) N c7) rfl (by kernel_rfl) (by kernel_rfl) (by kernel_rfl) (fun _ _ _ h => h) (Or.inl ⟨by rfl, fun W' hS' => by go_simp⟩) hS ?_
  simp only [Act.put, List.getElem_toArray, List.getElem_cons_zero, List.getElem_cons_succ, List.setIfInBounds_toArray, List.set_cons_zero, List.set_cons_succ]
  refine wpAnyH_take (i := 2) (v := .int .i64 s) rfl (by kernel_rfl) (by kernel_rfl) (by kernel_rfl) (fun _ _ _ h => h) (Or.inl ⟨by rfl, fun W' hS' => by go_simp⟩) hS ?_
  simp only [Act.put, List.getElem_toArray, List.getElem_cons_zero, List.getElem_cons_succ, List.setIfInBounds_toArray, List.set_cons_zero, List.set_cons_succ]
  refine wpAnyH_take (i := 3) (v := .int .i64 d) rfl (by kernel_rfl) (by kernel_rfl) (by kernel_rfl) (fun _ _ _ h => h) (Or.inl ⟨by rfl, fun W' hS' => by have hpw2 : (2 : Int) ^ s = d := HDD.out.symm; have hpw3 : IntKind.i64.wrap d = d := Go.IntWalk.i64_in _ (by omega); go_simp⟩) hS ?_
  simp only [Act.put, List.getElem_toArray, List.getElem_cons_zero, List.getElem_cons_succ, List.setIfInBounds_toArray, List.set_cons_zero, List.set_cons_succ]
  refine wpAnyH_ready (rs := [1]) (by kernel_rfl) (by simp) ?_
  refine AllReadyH.cons rfl (fun Kq hKq => ?_) AllReadyH.nil
  simp only [List.getElem_toArray, List.getElem_cons_zero, List.getElem_cons_succ]
  go_simp
  refine (HTR.out _ HBd.out).mono ?_
  rintro e V1 ⟨rfl, hb11⟩
  have HBV := Lib.hid (HBd.out.trans (hb11.mono HBd.out.size))
  clear hb11
  refine hKq.out _ _ trivial (fun _ => ?_)
  clear hKq Kq
  refine wpAnyH_ready (rs := [4]) (by kernel_rfl) (by simp) ?_
  refine AllReadyH.cons rfl (fun Kq hKq => ?_) AllReadyH.nil
  simp only [List.getElem_toArray, List.getElem_cons_zero, List.getElem_cons_succ]
  go_simp
  refine (HSH.out _ HBV.out).mono ?_
  rintro e V2 ⟨r, Ar, cr, rfl, hr1, hr2, hr3, hr4, hr5, hr6, hr7, hb12⟩
  have HBV2 := Lib.hid (HBV.out.trans (hb12.mono HBV.out.size))
  have HRR := Lib.hid (hr7.mrd rfl)
  rw [HMV.out] at hr6
  have HRV := Lib.hid hr6
  have hrl := hr2
  rw [HMT.out] at hrl
  obtain ⟨nr, hnr⟩ : ∃ x, x = r.length := ⟨_, rfl⟩
  rw [← hnr] at hr1 ⊢
  have HNR := Lib.hid hnr
  clear hb12 hr7 hr6 hnr hr2
  refine hKq.out _ _ trivial (fun _ => ?_)
  clear hKq Kq
  refine wpAnyH_take (i := 5) (v := .tuple #[.slice Ar nr cr, .int .i64 (valL (trimmed L) % d)]) rfl (by kernel_rfl) (by kernel_rfl) (by kernel_rfl) (fun _ _ _ h => h) (Or.inl ⟨by rfl, fun W' hS' => by go_simp⟩) hS ?_
  simp only [Act.put, List.getElem_toArray, List.getElem_cons_zero, List.getElem_cons_succ, List.setIfInBounds_toArray, List.set_cons_zero, List.set_cons_succ]
  refine wpAnyH_take (i := 6) (v := .slice Ar nr cr) rfl (by kernel_rfl) (by kernel_rfl) (by kernel_rfl) (fun _ _ _ h => h) (Or.inl ⟨by rfl, fun W' hS' => by go_simp⟩) hS ?_
  simp only [Act.put, List.getElem_toArray, List.getElem_cons_zero, List.getElem_cons_succ, List.setIfInBounds_toArray, List.set_cons_zero, List.set_cons_succ]
  refine wpAnyH_take (i := 7) (v := .int .i64 (valL (trimmed L) % d)) rfl (by kernel_rfl) (by kernel_rfl) (by kernel_rfl) (fun _ _ _ h => h) (Or.inl ⟨by rfl, fun W' hS' => by go_simp⟩) hS ?_
  simp only [Act.put, List.getElem_toArray, List.getElem_cons_zero, List.getElem_cons_succ, List.setIfInBounds_toArray, List.set_cons_zero, List.set_cons_succ]
  refine wpAnyH_take (i := 8) (v := .slice Ar nr cr) rfl (by kernel_rfl) (by kernel_rfl) (by kernel_rfl) (fun _ _ _ h => h) (Or.inl ⟨by rfl, fun W' hS' => by go_simp⟩) hS ?_
  simp only [Act.put, List.getElem_toArray, List.getElem_cons_zero, List.getElem_cons_succ, List.setIfInBounds_toArray, List.set_cons_zero, List.set_cons_succ]
  refine wpAnyH_done (by kernel_rfl) ?_ _
  go_wp2_with fail
  refine (HTQ.out V2 HBV2.out).mono ?_
  rintro e V3 ⟨rfl, hb13⟩
  go_wp2_with fail
  go_ret2
  have hV3 := HBV2.out.trans (hb13.mono HBV2.out.size)
  have hqv : valL (trimmed Q') = valL a / valL b := by
    rw [trimmed_val, valL, HI9.out.qlen, ← HDV.out.1, valL, HI9.out.qlen]
  have hrv : valL r = valL a % valL b := by rw [HRV.out, HDV.out.2.1]
  have hqd := trimmed_dig HI9.out.qdigs
  have hqt := trimmed_trim Q'
  have hql := quo_len HA.out.dig hqd hqt hqv
  have hbp := hb_pos HB.out.dig HB.out.trim (by rw [← HB.out.len]; omega)
  have hrl2 := rest_len HB.out.dig hr4 hr5 hbp hrv
  rw [HQT.out, ← HA.out.len] at hql
  rw [← HB.out.len, ← HNR.out] at hrl2
  refine ⟨trimmed Q', r, some ⟨w7.heap.size, 0, none⟩, Ar, n, cr, by rw [HQT.out, ← HNR.out]; rfl, hqv, hrv, ?_, ?_, fun b e => by cases e; show w.heap.size ≤ w7.heap.size; omega, HB9.out.trans (hV3.mono HB9.out.size)⟩
  · rw [HQT.out]
    exact ⟨HQT.out.symm, hnq2, by omega, (fun h => by cases h), hqd, hqt, by omega, fun _ => rfl, (HQR.out.below hV3).more hV3.size⟩
  · rw [← HNR.out]
    exact ⟨HNR.out, hr1, by omega, hr3, hr4, hr5, by omega, fun _ => rfl, (HRR.out.below hb13).more hb13.size⟩
end Go.Proofs.YtkkcbkfpaoldmaaGreatDoor

/- Walk: nat.div. -/
namespace Go.Proofs.YtkkcbkfpaoldmaaGreatDoor
open Go Go.RowKit

theorem BigOk.val {w : World} {B : Nat} {neg : Bool} {A : Option Addr} {n c : Nat} {l : List Int} (h : BigOk w B neg A n c l) : 0 ≤ valL l := (valL_range h.dig).1
theorem BigOk.pos {w : World} {B : Nat} {neg : Bool} {A : Option Addr} {n c : Nat} {l : List Int} (h : BigOk w B neg A n c l) (hn : 0 < n) : 0 < valL l := hb_pos h.dig h.trim (by rw [← h.len]; exact hn)
theorem BigOk.zero {w : World} {B : Nat} {neg : Bool} {A : Option Addr} {n c : Nat} {l : List Int} (h : BigOk w B neg A n c l) : valL l = 0 ↔ n = 0 := by
  constructor
  · intro h1
    rcases Nat.eq_zero_or_pos n with h2 | h2
    · exact h2
    · have := h.pos h2; omega
  · intro h1
    have := h.len
    rw [List.eq_nil_of_length_eq_zero (by omega : l.length = 0)]
    rfl
theorem bigOk_nil (w : World) (B : Nat) : BigOk w B false none 0 0 [] := ⟨rfl, Nat.le_refl _, by omega, fun _ => rfl, (fun x hx => by cases hx), (fun h => by cases h), by omega, fun _ => rfl, Rd.zero⟩
theorem sgn_neg {x : Int} (h : x < 0) : sgn x = -1 := by rw [sgn, if_pos h]
theorem sgn_nonneg {x : Int} (h : ¬ x < 0) : 0 ≤ sgn x := by
  rw [sgn, if_neg h]
  split <;> omega
theorem valL_one (x : Int) : valL [x] = x := by
  show dsum (dg [x]) 1 = x
  simp [dsum, bp, dg]
set_option maxRecDepth 100000 in
set_option linter.unusedSimpArgs false in
set_option linter.unusedVariables false in
set_option maxHeartbeats 4000000 in
theorem div_any (A B : Option Addr) (a b : List Int) (la lb ca cb : Nat) (w : World) (ha : BigOk w w.heap.size false A la ca a) (hb : BigOk w w.heap.size false B lb cb b) (h1 : 1 ≤ lb) :
    Calls Tryz.prog 84 #[.slice A la ca, .slice B lb cb] w (DivPost a b w) := by
  have hbp := hb.pos h1
  have hfa := ha.few
  have hfb := hb.few
  have HC := Lib.hid (compare_any A B a b la lb ca cb ha.len hb.len (by omega) (by omega) ha.dig hb.dig ha.trim hb.trim w ha.rd hb.rd)
  by_cases hlt : valL a - valL b < 0
  · rw [sgn_neg hlt] at HC
    have HD := Lib.hid (show valL [] = valL a / valL b ∧ valL a = valL a % valL b by
      have h2 := ha.val
      exact ⟨(Int.ediv_eq_zero_of_lt h2 (by omega)).symm, (Int.emod_eq_of_lt h2 (by omega)).symm⟩)
    have HA := Lib.hid ha
    clear ha hb hlt hbp
    go_enter Tryz.func84, Tryz.ntmps84
    go_wp2_with fail
    refine HC.out.mono ?_
    rintro e w1 ⟨rfl, hb1⟩
    go_wp2_with fail
    go_ret2
    have hA1 := (HA.out.below hb1).more hb1.size
    refine ⟨[], a, none, A, 0, ca, by rw [← hA1.len]; rfl, HD.out.1, HD.out.2, bigOk_nil _ _, by rw [← hA1.len]; exact hA1, (fun b e => by cases e), hb1⟩
  · have hs := sgn_nonneg hlt
    obtain ⟨sg, hsg⟩ : ∃ x, x = sgn (valL a - valL b) := ⟨_, rfl⟩
    rw [← hsg] at HC hs
    have g0 : decide (sg < 0) = false := decide_eq_false (by omega)
    have hab : lb ≤ la := by
      rcases Nat.lt_or_ge la lb with h2 | h2
      · have := valL_lt_len ha.dig hb.dig hb.trim (by rw [← ha.len, ← hb.len]; exact h2)
        omega
      · exact h2
    clear hsg hlt
    rcases Nat.lt_or_ge 1 lb with h2 | h2
    · have g1 : ((lb : Int) == 1) = false := beq_eq_false_iff_ne.2 (by omega)
      have g1n : (lb == 1) = false := beq_eq_false_iff_ne.2 (by omega)
      have g1p : ¬ lb = 1 := by omega
      have HL := Lib.hid (fun W (h : Below w.heap.size w W) => long_any A B a b la lb ca cb W ((ha.below h).more h.size) ((hb.below h).more h.size) h2 hab)
      clear ha hb hbp
      go_enter Tryz.func84, Tryz.ntmps84
      go_wp2_with fail
      refine HC.out.mono ?_
      rintro e w1 ⟨rfl, hb1⟩
      go_wp2_with fail
      refine (HL.out w1 hb1).mono ?_
      rintro e w2 ⟨q, r, Aq, Ar, cq, cr, rfl, hq, hr, hbq, hbr, hfq, hb2⟩
      obtain ⟨nq, hnq⟩ : ∃ x, x = q.length := ⟨_, rfl⟩
      obtain ⟨nr, hnr⟩ : ∃ x, x = r.length := ⟨_, rfl⟩
      rw [← hnq, ← hnr]
      have HQ := Lib.hid hnq
      have HR := Lib.hid hnr
      have HQV := Lib.hid hq
      have HRV := Lib.hid hr
      clear hnq hnr hq hr HC HL
      go_wp2_with fail
      go_ret2
      exact ⟨q, r, Aq, Ar, cq, cr, by rw [HQ.out, HR.out]; rfl, HQV.out, HRV.out, hbq, hbr, fun b e => Nat.le_trans hb1.size (hfq b e), hb1.trans (hb2.mono hb1.size)⟩
    · obtain rfl : lb = 1 := by omega
      obtain ⟨x, rfl⟩ : ∃ x, b = [x] := List.length_eq_one_iff.1 hb.len.symm
      have hx := hb.dig x (by simp)
      rw [valL_one] at hbp
      have HS := Lib.hid (fun W (h : Below w.heap.size w W) => short_any A a la ca ha.len (by omega) ha.dig x ⟨hbp, by omega⟩ W ((ha.below h).more h.size).rd)
      obtain ⟨bb, ob, rfl, hbb, hcb⟩ := hb.rd.at_ (k := 0) (by simp)
      have HCB := Lib.hid (fun W (h : Below w.heap.size w W) => (h.cell (p := ⟨bb, ob, none⟩) hbb).trans hcb)
      have HAL := Lib.hid ha.len
      have HAD := Lib.hid ha.dig
      clear ha hb hcb
      go_enter Tryz.func84, Tryz.ntmps84
      go_wp2_with fail
      refine HC.out.mono ?_
      rintro e w1 ⟨rfl, hb1⟩
      have cb1 : w1.cell? ⟨bb, ob, none⟩ = some (.int .i64 x) := HCB.out w1 hb1
      have HB1 := Lib.hid hb1
      clear hb1
      go_wp2_with fail
      refine (HS.out w1 HB1.out).mono ?_
      rintro e w2 ⟨q, Aq, cq, rfl, hr1, hr2, hr3, hr4, hr5, hr6, hr7, hb2⟩
      have HQR := Lib.hid (hr7.mrd rfl)
      have HFQ := Lib.hid (fun b (e : Aq = some b) => Nat.le_trans HB1.out.size (World.ownsRow.lt hr7 b.block (by rw [e]; rfl)).1)
      have hql := quo_len HAD.out hr4 hr5 hr6
      rw [← HAL.out] at hql
      obtain ⟨nq, hnq⟩ : ∃ x, x = q.length := ⟨_, rfl⟩
      rw [← hnq] at hr1 hql ⊢
      have HQL := Lib.hid hnq
      have HQV := Lib.hid hr6
      have HB2 := Lib.hid hb2
      obtain ⟨d, hd⟩ : ∃ y, y = valL a % x := ⟨_, rfl⟩
      rw [← hd]
      have hdr : 0 ≤ d ∧ d < x := by rw [hd]; exact ⟨Int.emod_nonneg _ (by omega), Int.emod_lt_of_pos _ hbp⟩
      have HD := Lib.hid hd
      obtain ⟨m, hm⟩ : ∃ y, y = tlen [d] 1 := ⟨_, rfl⟩
      have HT : Hid (∀ W, Blk W w2.heap.size 3 #[.int .i64 d] → Calls Tryz.prog 104 #[.slice (some ⟨w2.heap.size, 0, none⟩) 1 1] W (Ret (.slice (some ⟨w2.heap.size, 0, none⟩) m 1) W)) := Lib.hid (fun W hW => by
        have h := trim_any (some ⟨w2.heap.size, 0, none⟩) [d] 1 1 rfl (Nat.le_refl _) (by omega) (by omega) W (Rd.of_blk hW hW.lt fun k hk => by
          rcases k with _ | k
          · rfl
          · simp at hk)
        rw [← hm] at h
        exact h)
      have HM := Lib.hid hm
      clear hr6 hr7 hnq hd hm hb2 HS HC
      go_wp2_with fail
      refine (HT.out _ (Blk.new _ _ _)).mono ?_
      rintro e w3 ⟨rfl, hb3⟩
      have bd := (Blk.new w2 3 #[.int .i64 d]).below hb3 (by simp)
      go_wp2_with fail
      go_ret2
      have hz3 := hb3.size
      simp only [World.size_alloc] at hz3
      have h23 : Below w2.heap.size w2 w3 := ((Below.refl _ w2).alloc (Nat.le_refl _) _).trans (hb3.mono (by simp))
      have hmt : (trimmed [d]).length = m := by rw [trimmed_len, HM.out]; rfl
      have hm1 : m ≤ 1 := by rw [HM.out]; exact tlen_le _ _
      have hdd : DigL [d] := fun y hy => by rw [List.mem_singleton.1 hy]; omega
      have hrr : MRd w3 w3.heap.size (some ⟨w2.heap.size, 0, none⟩) (trimmed [d]) := (show MRd w3 w3.heap.size (some ⟨w2.heap.size, 0, none⟩) [d] from Rd.of_blk bd bd.lt fun k hk => by
          rcases k with _ | k
          · rfl
          · simp at hk).trimmed
      refine ⟨q, trimmed [d], Aq, some ⟨w2.heap.size, 0, none⟩, cq, 1, by rw [hmt, HQL.out]; rfl, by rw [HQV.out, valL_one], by rw [trimmed_val, valL_one, valL_one, HD.out], ?_, ?_, HFQ.out, HB1.out.trans ((HB2.out.trans (h23.mono HB2.out.size)).mono HB1.out.size)⟩
      · rw [← HQL.out]
        exact ⟨HQL.out, hr1, by have := HAL.out; omega, hr3, hr4, hr5, by omega, fun _ => rfl, (HQR.out.below h23).more h23.size⟩
      · rw [hmt]
        exact ⟨hmt.symm, hm1, by omega, (fun h => by cases h), trimmed_dig hdd, trimmed_trim _, by omega, fun _ => rfl, hrr⟩
end Go.Proofs.YtkkcbkfpaoldmaaGreatDoor

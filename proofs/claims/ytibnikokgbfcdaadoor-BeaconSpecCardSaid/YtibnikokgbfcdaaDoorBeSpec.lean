/- The law podiumlaw31.BeaconSpec: for all pledges, reveals, parties and values she returns true. -/
import Derived.Test.YtibnikokgbfcdaaDoorRV
import Derived.Test.YtibnikokgbfcdaaDoorB10
import Derived.Test.YtibnikokgbfcdaaDoorBPE
import Derived.Test.YtibnikokgbfcdaaDoorC4
namespace Go.Proofs.YtibnikokgbfcdaaDoor
open Go Go.RowKit

theorem load_pd_w {ops : Array Oper} {rest : List Oper} {o : Oper} {a : Act} {Q : Exit → Act → World → Prop} {t : TypeId} (hT : PdType t) (hi : (Tryd.prog.info? t).map (·.size) = some 33) (hw : Region.wanted o (yielded ops a.tmps) = true) (p : Operand) (ho : o.op = .load t p) {w : World} (b off : Nat) (x : Pd) (hl : PdAt w b off x) (hx : a.eval p = .pointer (some ⟨b, off, none⟩))
    (h : wpList Tryd.prog ops Q rest (a.put o.dst (.agg x.cells.toArray)) w) : wpList Tryd.prog ops Q (o :: rest) a w := by
  obtain ⟨-, fs, hu, -⟩ := hT
  unfold wpList
  rw [if_pos hw]
  exact .inl (wp_load_mid t p ho b off hx x.cells _ hl.2 hu rfl (by rw [x.cells_len hl.1]; exact hi) h)
theorem range_dig {w : World} {g : Nat} {t : TypeId} {d : List UInt8} (h : Blk w g t (dig d)) : w.rangeAt g 0 (dig d).toList := fun j v hv => by
  rw [Nat.zero_add, h.cell]
  simpa using hv
/-- What Value returns, by the program and by the reference. -/
def VC (D : List UInt8) (ms : List Int) (code : Int) (q : Nat) (w : World) (e : Ending) (w' : World) : Prop :=
  ∃ M cm, e = .returned (.tuple #[.agg (dig D), .slice M q cm, .int .i64 code]) ∧ Rd w' w'.heap.size M q (fun i => .int .i64 (ms.getD i 0)) ∧ Below w.heap.size w w'
theorem vc_good {l r : List Pd} {w : World} {e : Ending} {w' : World} (h : ValPost l r w e w') : VC (valueOf l r) (missingOf l r) 0 (missingOf l r).length w e w' := by
  obtain ⟨M, q', cm, h3, h4, h5, h6, h7, h8⟩ := h
  subst h4
  exact ⟨M, cm, h3, h7, h8⟩
theorem vc_bad {w : World} {e : Ending} {w' : World} (h : Ret (.tuple #[.agg (dig zdg), .slice none 0 0, .int .i64 310]) w e w') : VC zdg [] 310 0 w e w' :=
  ⟨none, 0, h.1, Rd.zero, h.2⟩
theorem values_any (A B : Option Addr) (l r : List Pd) (n c k c2 : Nat) (hn : n = l.length) (hk : k = r.length) (hn2 : n ≤ 1000000) (hk2 : k ≤ 1000000) (hil : PdInts l) (hir : PdInts r) (w : World) (hL : Laid w) (hA : PRd w w.heap.size A l) (hB : PRd w w.heap.size B r) :
    ∃ D ms code q, D.length = 32 ∧ q = ms.length ∧ q ≤ 1000000 ∧ (∀ W, Below w.heap.size w W → Calls Tryd.prog 51 #[.slice A n c, .slice B k c2] W (VC D ms code q W)) ∧ (∀ W, Below w.heap.size w W → Calls Tryd.prog 52 #[.slice A n c, .slice B k c2] W (VC D ms code q W)) := by
  by_cases h : inForm l ∧ inForm r
  · refine ⟨valueOf l r, missingOf l r, 0, (missingOf l r).length, tagged_length _ _, rfl, Nat.le_trans (missingOf_le _ _) (by omega), fun W hb => ?_, fun W hb => ?_⟩
    · exact (bValue_good A B l r n c k c2 hn hk (by omega) hil hir W (hL.below hb) ((hA.below hb).more hb.size) ((hB.below hb).more hb.size) h.1 h.2).mono fun _ _ h => vc_good h
    · exact (r31Value_good A B l r n c k c2 hn hk hil hir W ((hA.below hb).more hb.size) ((hB.below hb).more hb.size) h.1 h.2).mono fun _ _ h => vc_good h
  · refine ⟨zdg, [], 310, 0, rfl, rfl, by omega, fun W hb => ?_, fun W hb => ?_⟩
    · refine (bValue_any A B l r n c k c2 hn (by omega) hk (by omega) hil hir W (hL.below hb) ((hA.below hb).more hb.size) ((hB.below hb).more hb.size)).mono fun _ _ h2 => ?_
      rcases h2 with ⟨h3, h4, -⟩ | ⟨-, h3⟩
      · exact absurd ⟨h3, h4⟩ h
      · exact vc_bad h3
    · exact (r31Value_bad A B l r n c k c2 hn hk hn2 hk2 hil hir W ((hA.below hb).more hb.size) ((hB.below hb).more hb.size) h).mono fun _ _ h => vc_bad h
set_option maxRecDepth 100000 in
set_option linter.unusedSimpArgs false in
set_option linter.unusedVariables false in
set_option maxHeartbeats 8000000 in
theorem spec_few (A B : Option Addr) (l r : List Pd) (n c k c2 : Nat) (hn : n = l.length) (hk : k = r.length) (hn30 : n ≤ 30) (hk30 : k ≤ 30) (hil : PdInts l) (hir : PdInts r) (z : Int) (v : List UInt8) (hv : v.length = 32) (w : World) (hL : Laid w) (hA : PRd w w.heap.size A l) (hB : PRd w w.heap.size B r) :
    Calls Tryd.prog 14 #[.slice A n c, .slice B k c2, .int .i64 z, .agg (dig v)] w (Ret (.bool true) w) := by
  obtain ⟨D, ms, code, q, hDl, hq, hqn, hV, hR⟩ := values_any A B l r n c k c2 hn hk (by omega) (by omega) hil hir w hL hA hB
  have HV := Lib.hid hV
  have HR := Lib.hid hR
  have HQ := Lib.hid hq
  have HS := Lib.hid (fun W h => sane31_ok W h)
  have HL := Lib.hid hL
  obtain ⟨⟨mp, me⟩, hm⟩ : ∃ m, m = makeOf z v := ⟨_, rfl⟩
  have hml : mp.dg.length = 32 := by
    have h : (makeOf z v).1.dg.length = 32 := by
      unfold makeOf
      split
      · exact commitOf_length _ _
      · rfl
    rw [← hm] at h
    exact h
  have HM1 := Lib.hid (fun W hW => bMake_any z v hv W hW)
  have HM2 := Lib.hid (fun W => r31Make_any z v hv W)
  rw [← hm] at HM1 HM2
  simp only [makeV] at HM1 HM2
  have g1 : decide ((30 : Int) < (n : Int)) = false := decide_eq_false (by omega)
  have g2 : decide ((30 : Int) < (k : Int)) = false := decide_eq_false (by omega)
  clear hL hA hB hn hk hil hir hV hR hq hm hn30 hk30
  go_enter Tryd.func14, Tryd.ntmps14
  go_wp2_with fail
  refine calls_gen (fun W => Blk W w.heap.size 23 (dig v) ∧ Below w.heap.size w W) ⟨Blk.new _ _ _, (Below.refl _ _).alloc (Nat.le_refl _) _⟩ (fun W0 ⟨bv0, hB0⟩ => ?_)
  refine (HS.out W0 (HL.out.below hB0)).mono ?_
  rintro e w1 ⟨rfl, hb1⟩
  have bv1 := bv0.below hb1 bv0.lt
  have hB1 := hB0.trans (hb1.mono hB0.size)
  clear bv0 hB0 hb1
  go_wp2_with (refine load_dig rfl _ rfl v hv bv1 rfl ?_)
  refine (HM1.out w1 (HL.out.below hB1)).mono ?_
  rintro e w2 ⟨rfl, hb2⟩
  have bv2 := bv1.below hb2 bv1.lt
  have hB2 := hB1.trans (hb2.mono hB1.size)
  clear bv1 hB1 hb2
  go_wp2_with (first
    | (refine store_pd pledgeInfo rfl _ _ rfl (Blk.new' w2 61 _ rfl) mp hml rfl rfl rfl ?_; intro w3 bp3 hO hz; have hk3 : Below w2.heap.size w2 w3 := ((Below.refl _ w2).alloc (Nat.le_refl _) _).trans (hO.toBelow (by simp) (Nat.le_refl _)); have bv3 := bv2.below hk3 bv2.lt; have hB3 := hB2.trans (hk3.mono hB2.size); clear hO hz bv2 hB2 hk3)
    | (refine load_dig rfl _ rfl v hv bv3 rfl ?_))
  refine (HM2.out w3).mono ?_
  rintro e w4 ⟨rfl, hb4⟩
  have bp4 := bp3.below hb4 bp3.lt
  have hB4 := hB3.trans (hb4.mono hB3.size)
  clear bp3 bv3 hB3 hb4
  go_wp2_with (refine store_pd pledgeInfo rfl _ _ rfl (Blk.new' w4 61 _ rfl) mp hml rfl rfl rfl ?_; intro w5 bq5 hO hz; have hk5 : Below w4.heap.size w4 w5 := ((Below.refl _ w4).alloc (Nat.le_refl _) _).trans (hO.toBelow (by simp) (Nat.le_refl _)); have bp5 := bp4.below hk5 bp4.lt; have hB5 := hB4.trans (hk5.mono hB4.size); clear hO hz bp4 hB4 hk5)
  refine (HV.out w5 hB5).mono ?_
  rintro e w6 ⟨M, cm, rfl, rm6, hb6⟩
  have bp6 := bp5.below hb6 bp5.lt
  have bq6 := bq5.below hb6 bq5.lt
  have hB6 := hB5.trans (hb6.mono hB5.size)
  have RM6 := Lib.hid rm6
  clear bp5 bq5 hB5 hb6 rm6
  go_wp2_with (refine store_dig_new rfl _ _ rfl w6 _ _ D hDl rfl rfl rfl ?_)
  refine calls_gen (fun W => Blk W w6.heap.size 23 (dig D) ∧ Below w6.heap.size w6 W) ⟨Blk.new _ _ _, (Below.refl _ _).alloc (Nat.le_refl _) _⟩ (fun w7 ⟨bd7, hk7⟩ => ?_)
  have bp7 := bp6.below hk7 bp6.lt
  have bq7 := bq6.below hk7 bq6.lt
  have rm7 := (Rd.below RM6.out hk7).more hk7.size
  have hB7 := hB6.trans (hk7.mono hB6.size)
  clear bp6 bq6 hB6 hk7 RM6
  refine (HR.out w7 hB7).mono ?_
  rintro e w8 ⟨M2, cm2, rfl, rn8, hb8⟩
  have bp8 := bp7.below hb8 bp7.lt
  have bq8 := bq7.below hb8 bq7.lt
  have bd8 := bd7.below hb8 bd7.lt
  have rm8 := (Rd.below rm7 hb8).more hb8.size
  have hB8 := hB7.trans (hb8.mono hB7.size)
  have RM8 := Lib.hid rm8
  have RN8 := Lib.hid rn8
  clear bp7 bq7 bd7 hB7 hb8 rm7 rm8 rn8
  go_wp2_with (first
    | (refine store_dig_new rfl _ _ rfl w8 _ _ D hDl rfl rfl rfl ?_; refine wpl_gen (fun W => Blk W w8.heap.size 23 (dig D) ∧ Below w8.heap.size w8 W) ⟨Blk.new _ _ _, (Below.refl _ _).alloc (Nat.le_refl _) _⟩ ?_; rintro w9 ⟨be9, hk9⟩; have bp9 := bp8.below hk9 bp8.lt; have bq9 := bq8.below hk9 bq8.lt; have bd9 := bd8.below hk9 bd8.lt; have hB9 := hB8.trans (hk9.mono hB8.size))
    | (refine load_pd_w pledgeType pledgeInfo (by rfl) _ rfl w2.heap.size 0 mp ⟨hml, rangeAt_of_blk_toArray bp9⟩ rfl ?_)
    | (refine load_pd_w pledgeType pledgeInfo (by rfl) _ rfl w4.heap.size 0 mp ⟨hml, rangeAt_of_blk_toArray bq9⟩ rfl ?_)
    | (refine eql_pd_g (by rfl) _ _ _ rfl mp mp hml hml rfl rfl true ((eqPd_iff mp mp).2 rfl) ?_)
    | (refine load_dig_g (by rfl) _ rfl w6.heap.size 0 rfl D hDl (range_dig bd9) ?_)
    | (refine load_dig_g (by rfl) _ rfl w8.heap.size 0 rfl D hDl (range_dig be9) ?_)
    | (refine b_eql_g (by rfl) _ _ _ rfl D D hDl hDl rfl rfl true (by simp) ?_))
  have hsm := r31Same_any M M2 ms ms cm cm2 w9 (by rw [← HQ.out]; exact (Rd.below RM8.out hk9).more hk9.size) (by rw [← HQ.out]; exact (Rd.below RN8.out hk9).more hk9.size) (by rw [← HQ.out]; omega)
  rw [decide_eq_true rfl, ← HQ.out] at hsm
  refine hsm.mono ?_
  rintro e w10 ⟨rfl, hb10⟩
  have hB10 := hB9.trans (hb10.mono hB9.size)
  go_wp2_with fail
  go_ret
  exact ⟨rfl, hB10⟩
set_option maxRecDepth 100000 in
set_option linter.unusedSimpArgs false in
set_option linter.unusedVariables false in
set_option maxHeartbeats 4000000 in
theorem spec_many (A B : Option Addr) (n c k c2 : Nat) (h30 : 30 < n ∨ 30 < k) (z : Int) (v : List UInt8) (w : World) (hL : Laid w) :
    Calls Tryd.prog 14 #[.slice A n c, .slice B k c2, .int .i64 z, .agg (dig v)] w (Ret (.bool true) w) := by
  have HS := Lib.hid (fun W h => sane31_ok W h)
  have HL := Lib.hid hL
  clear hL
  by_cases h1 : 30 < n
  · have g1 : decide ((30 : Int) < (n : Int)) = true := decide_eq_true (by omega)
    clear h30 h1
    go_enter Tryd.func14, Tryd.ntmps14
    go_wp2_with fail
    refine calls_gen (fun W => Below w.heap.size w W) ((Below.refl _ _).alloc (Nat.le_refl _) _) (fun W0 hB0 => ?_)
    refine (HS.out W0 (HL.out.below hB0)).mono ?_
    rintro e w1 ⟨rfl, hb1⟩
    go_wp2_with (refine wpList_skip (by rfl) ?_)
    go_ret
    exact ⟨rfl, hB0.trans (hb1.mono hB0.size)⟩
  · have g1 : decide ((30 : Int) < (n : Int)) = false := decide_eq_false (by omega)
    have g2 : decide ((30 : Int) < (k : Int)) = true := decide_eq_true (by omega)
    clear h30 h1
    go_enter Tryd.func14, Tryd.ntmps14
    go_wp2_with fail
    refine calls_gen (fun W => Below w.heap.size w W) ((Below.refl _ _).alloc (Nat.le_refl _) _) (fun W0 hB0 => ?_)
    refine (HS.out W0 (HL.out.below hB0)).mono ?_
    rintro e w1 ⟨rfl, hb1⟩
    go_wp2_with fail
    go_ret
    exact ⟨rfl, hB0.trans (hb1.mono hB0.size)⟩
set_option linter.unusedVariables false in
theorem beaconSpec_any (A : Option Addr) (l : List Pd) (c : Nat) (hc : l.length ≤ c) (hcc : c ≤ 9223372036854775807) (hil : PdInts l) (B : Option Addr) (r : List Pd) (c2 : Nat) (hc2 : r.length ≤ c2) (hcc2 : c2 ≤ 9223372036854775807) (hir : PdInts r) (z : Int) (v : List UInt8) (hv : v.length = 32) (w : World) (hL : Laid w) (hA : PRd w w.heap.size A l) (hB : PRd w w.heap.size B r) :
    Calls Tryd.prog 14 #[.slice A l.length c, .slice B r.length c2, .int .i64 z, .agg (dig v)] w (Ret (.bool true) w) := by
  by_cases h : 30 < l.length ∨ 30 < r.length
  · exact spec_many A B l.length c r.length c2 h z v w hL
  · exact spec_few A B l r l.length c r.length c2 rfl rfl (by omega) (by omega) hil hir z v hv w hL hA hB
end Go.Proofs.YtibnikokgbfcdaaDoor

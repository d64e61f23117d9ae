/- The law podiumlaw31.BeaconMissing: for all pledges and reveals she returns true. -/
import Derived.Test.YtibnikokgbfcdaaDoorB10
import Derived.Test.YtibnikokgbfcdaaDoorBF
import Derived.Test.YtibnikokgbfcdaaDoorBPE
namespace Go.Proofs.YtibnikokgbfcdaaDoor
open Go Go.RowKit

theorem load_pd_g {ops : Array Oper} {rest : List Oper} {o : Oper} {a : Act} {Q : Exit → Act → World → Prop} {t : TypeId} (hT : PdType t) (hi : (Tryd.prog.info? t).map (·.size) = some 33) (hw : Region.wanted o (yielded ops a.tmps) = true) (p : Operand) (ho : o.op = .load t p) {w : World} (b off : Nat) (x : Pd) (hl : PdAt w b off x) (hx : a.eval p = .pointer (some ⟨b, off, none⟩))
    (h : wpList Tryd.prog ops Q rest (a.put o.dst (.agg x.cells.toArray)) w) : wpList Tryd.prog ops Q (o :: rest) a w := by
  obtain ⟨-, fs, hu, -⟩ := hT
  unfold wpList
  rw [if_pos hw]
  exact .inl (wp_load_mid t p ho b off hx x.cells _ hl.2 hu rfl (by rw [x.cells_len hl.1]; exact hi) h)
theorem isn_of_true {α : Type} {o : Option α} (h : true = o.isSome) : o.isNone = false := by
  cases o with
  | none => cases h
  | some v => rfl
theorem isn_of_false {α : Type} {o : Option α} (h : false = o.isSome) : o.isNone = true := by
  cases o with
  | none => rfl
  | some v => cases h
theorem rd_at2 {w : World} {A : Option Addr} {n : Nat} {f : Nat → Value} (h : Rd w w.heap.size A n f) {k : Nat} (hk : k < n) : ∃ b off, A = some ⟨b, off, none⟩ ∧ w.cell? ⟨b, off + k, none⟩ = some (f k) := by
  obtain ⟨b, off, e, hb, hc⟩ := h (by omega)
  exact ⟨b, off, e, hc k hk⟩
/-- Is a pledge the one that Make makes for a reveal? -/
def opensB (p x : Pd) : Bool := decide ((makeOf x.party x.dg).2 = 0) && eqPd (makeOf x.party x.dg).1 p
theorem makeOf_len (k : Int) (v : List UInt8) : (makeOf k v).1.dg.length = 32 := by
  unfold makeOf
  split
  · exact commitOf_length _ _
  · rfl
theorem any_opens {r : List Pd} (h : inForm r) {p : Pd} (hp : 0 ≤ p.party ∧ p.party < 24) : r.any (opensB p) = (openedBy r p).isSome := by
  have key : r.any (opensB p) = true ↔ (openedBy r p).isSome = true := by
    rw [List.any_eq_true, Option.isSome_iff_exists]
    constructor
    · rintro ⟨x, hx, ho⟩
      rw [opensB, Bool.and_eq_true, eqPd_iff, makeOf, if_pos (h.range hx)] at ho
      refine ⟨x.dg, (openedBy_some h).2 ⟨?_, ?_⟩⟩
      · rw [← ho.2]; exact hx
      · rw [← ho.2]
    · rintro ⟨v, hv⟩
      obtain ⟨h1, h2⟩ := (openedBy_some h).1 hv
      refine ⟨_, h1, ?_⟩
      rw [opensB, Bool.and_eq_true, eqPd_iff, makeOf, if_pos hp]
      refine ⟨rfl, ?_⟩
      show (⟨p.party, commitOf p.party.toNat v⟩ : Pd) = p
      rw [h2]
  cases h1 : r.any (opensB p) <;> cases h2 : (openedBy r p).isSome <;> simp_all
theorem any_take {r : List Pd} {u : Nat} (f : Pd → Bool) (h : u < r.length) : (r.take (u + 1)).any f = ((r.take u).any f || f (r.getD u pd0)) := by
  rw [take_getD h, List.any_append]
  simp
set_option maxRecDepth 100000 in
set_option linter.unusedSimpArgs false in
set_option linter.unusedVariables false in
set_option maxHeartbeats 8000000 in
theorem missing_bad (A B : Option Addr) (l r : List Pd) (n c k c2 : Nat) (hn : n = l.length) (hn2 : n ≤ 9223372036854775807) (hk : k = r.length) (hk2 : k ≤ 9223372036854775807) (hil : PdInts l) (hir : PdInts r) (w : World) (hL : Laid w) (hA : PRd w w.heap.size A l) (hB : PRd w w.heap.size B r) (hf : ¬ (inForm l ∧ inForm r)) :
    Calls Tryd.prog 16 #[.slice A n c, .slice B k c2] w (Ret (.bool true) w) := by
  have HS := Lib.hid (fun W h => sane31_ok W h)
  have HL := Lib.hid hL
  have hfb : (formB l && formB r) = false := by
    cases h1 : formB l <;> cases h2 : formB r <;> simp_all [formB_true]
  have HV := Lib.hid (fun W (hb : Below w.heap.size w W) => (bValue_any A B l r n c k c2 hn hn2 hk hk2 hil hir W (HL.out.below hb) ((hA.below hb).more hb.size) ((hB.below hb).more hb.size)).mono fun _ _ h => (by
    rcases h with ⟨h1, h2, -⟩ | ⟨-, h⟩
    · exact absurd ⟨h1, h2⟩ hf
    · exact h : Ret (.tuple #[.agg (dig zdg), .slice none 0 0, .int .i64 310]) W _ _))
  have HF := Lib.hid (fun W (hb : Below w.heap.size w W) => formed31_any A B l r n c k c2 hn hk hil hir W ((hA.below hb).more hb.size) ((hB.below hb).more hb.size))
  rw [hfb] at HF
  have g1 : decide ((24 : Int) < (n : Int)) = true ∨ decide ((24 : Int) < (n : Int)) = false := by cases decide ((24 : Int) < (n : Int)) <;> simp
  have g2 : decide ((24 : Int) < (k : Int)) = true ∨ decide ((24 : Int) < (k : Int)) = false := by cases decide ((24 : Int) < (k : Int)) <;> simp
  clear hL hA hB hn hk hil hir hf hfb
  rcases g1 with g1 | g1 <;> rcases g2 with g2 | g2
  all_goals
    go_enter Tryd.func16, Tryd.ntmps16
    go_wp2_with fail
    refine (HS.out w HL.out).mono ?_
    rintro e w1 ⟨rfl, hb1⟩
    go_wp2_with fail
    refine (HV.out w1 hb1).mono ?_
    rintro e w2 ⟨rfl, hb2⟩
    have hB2 := hb1.trans (hb2.mono hb1.size)
    go_wp2_with (refine store_dig_new rfl _ _ rfl w2 _ _ zdg rfl rfl rfl rfl ?_)
    refine calls_gen (fun W => Below w.heap.size w W) (hB2.alloc hB2.size _) (fun w3 hB3 => ?_)
    refine (HF.out w3 hB3).mono ?_
    rintro e w4 ⟨rfl, hb4⟩
    go_wp2_with (refine wpList_skip (by rfl) ?_)
    go_ret
    exact ⟨rfl, hB3.trans (hb4.mono hB3.size)⟩
set_option maxRecDepth 100000 in
set_option linter.unusedSimpArgs false in
set_option linter.unusedVariables false in
set_option maxHeartbeats 8000000 in
theorem missing_good (A B : Option Addr) (l r : List Pd) (n c k c2 : Nat) (hn : n = l.length) (hk : k = r.length) (hk2 : k ≤ 9223372036854775807) (hil : PdInts l) (hir : PdInts r) (w : World) (hL : Laid w) (hA : PRd w w.heap.size A l) (hB : PRd w w.heap.size B r) (hf : inForm l) (hg : inForm r) :
    Calls Tryd.prog 16 #[.slice A n c, .slice B k c2] w (Ret (.bool true) w) := by
  have hn24 := hf.length
  have hk24 := hg.length
  rw [← hn] at hn24
  rw [← hk] at hk24
  have HS := Lib.hid (fun W h => sane31_ok W h)
  have HL := Lib.hid hL
  have HV := Lib.hid (fun W (hb : Below w.heap.size w W) => bValue_good A B l r n c k c2 hn hk hk2 hil hir W (HL.out.below hb) ((hA.below hb).more hb.size) ((hB.below hb).more hb.size) hf hg)
  have HFO := Lib.hid (fun W (hb : Below w.heap.size w W) => formed31_any A B l r n c k c2 hn hk hil hir W ((hA.below hb).more hb.size) ((hB.below hb).more hb.size))
  rw [formB_true.2 hf, formB_true.2 hg, Bool.and_true] at HFO
  have HA := Lib.hid hA
  have HB := Lib.hid hB
  have HN := Lib.hid hn
  have HK := Lib.hid hk
  have HF := Lib.hid hf
  have HG := Lib.hid hg
  clear hL hA hB hn hk hil hir hf hg
  go_enter Tryd.func16, Tryd.ntmps16
  go_wp2_with fail
  refine (HS.out w HL.out).mono ?_
  rintro e w1 ⟨rfl, hb1⟩
  go_wp2_with fail
  refine (HV.out w1 hb1).mono ?_
  rintro e w2 ⟨M, q, cm, rfl, hq, hqc, hcm, rm2, hb2⟩
  have hB2 := hb1.trans (hb2.mono hb1.size)
  obtain ⟨V, hV⟩ : ∃ V, V = valueOf l r := ⟨_, rfl⟩
  have hVl : V.length = 32 := by rw [hV]; exact tagged_length _ _
  rw [← hV]
  have HQ := Lib.hid hq
  clear hb1 hb2 hV hq
  go_wp2_with (refine store_dig_new rfl _ _ rfl w2 _ _ V hVl rfl rfl rfl ?_)
  refine calls_gen (fun W => Below w2.heap.size w2 W) ((Below.refl _ _).alloc (Nat.le_refl _) _) (fun w3 hb3 => ?_)
  have hB3 := hB2.trans (hb3.mono hB2.size)
  refine (HFO.out w3 hB3).mono ?_
  rintro e w4 ⟨rfl, hb4⟩
  have hB4 := hB3.trans (hb4.mono hB3.size)
  have RM := Lib.hid (((Rd.below rm2 hb3).more hb3.size).below hb4 |>.more hb4.size)
  have HB4 := Lib.hid hB4
  clear hB2 hb3 hB3 hb4 rm2 hB4
  go_wp2_with fail
  go_loopw [8, 50] (fun av jj wr => ∃ t : Nat, t ≤ n ∧ jj = .int .i64 t ∧ av = .int .i64 ((missingOf (l.take t) r).length : Nat) ∧ Below w4.heap.size w4 wr) (fun _ jj _ => n - (intOf jj).toNat)
  case atStart => exact ⟨0, by omega, rfl, by rw [List.take_zero]; rfl, Below.refl _ _⟩
  case round =>
    obtain ⟨t, ht, rfl, rfl, hBr⟩ := hrel
    obtain ⟨at_, hat⟩ : ∃ a, a = (missingOf (l.take t) r).length := ⟨_, rfl⟩
    rw [← hat]
    have HAT := Lib.hid hat
    clear hat
    have hBw := HB4.out.trans (hBr.mono HB4.out.size)
    by_cases hlt : t < n
    · obtain ⟨bb, off, rfl, hbl, hx⟩ := (HA.out.below hBw).at_ (k := t) (by rw [← HN.out]; exact hlt)
      obtain ⟨p, hp⟩ : ∃ p, p = l.getD t pd0 := ⟨_, rfl⟩
      have hpr : 0 ≤ p.party ∧ p.party < 24 := by rw [hp]; exact ⟨(HF.out t (by rw [← HN.out]; exact hlt)).1, (HF.out t (by rw [← HN.out]; exact hlt)).2.1⟩
      have HAO := Lib.hid (any_opens HG.out hpr)
      have HMS := Lib.hid (show missingOf (l.take (t + 1)) r = missingOf (l.take t) r ++ if (openedBy r p).isNone then [p.party] else [] by rw [hp]; exact missingOf_step (by rw [← HN.out]; exact hlt))
      have HMP := Lib.hid (show (openedBy r p).isNone = true → (missingOf l r)[at_]? = some p.party by rw [HAT.out, hp]; exact missingOf_split (by rw [← HN.out]; exact hlt))
      rw [← hp] at hx
      have HX := Lib.hid hx
      have hpl : p.dg.length = 32 := hx.1
      clear hp hx hpr
      go_upto_region 12 with (first
        | (refine load_pd pledgeType pledgeInfo rfl _ rfl bb (off + t * 33) p HX.out rfl ?_)
        | (refine store_pd pledgeInfo rfl _ _ rfl (Blk.new' wr 61 _ rfl) p hpl rfl rfl rfl ?_; intro w5 bp5 hO5 hz5
           have hb5 : Below wr.heap.size wr w5 := ((Below.refl _ wr).alloc (Nat.le_refl _) _).trans (hO5.toBelow (by simp) (Nat.le_refl _))))
      have HB5 := Lib.hid (hBr.trans (hb5.mono hBr.size))
      obtain ⟨G5, hG5⟩ : ∃ G, G = wr.heap.size := ⟨_, rfl⟩
      rw [← hG5] at bp5 ⊢
      have HBW5 := Lib.hid (hBw.trans (hb5.mono hBw.size))
      have HBP := Lib.hid bp5
      have hgl := bp5.lt
      clear hO5 hz5 hb5 hBr hBw bp5 hG5
      go_wp2_with fail
      go_loopw [11, 56] (fun ov kk wr' => ∃ u : Nat, u ≤ k ∧ kk = .int .i64 u ∧ ov = .bool ((r.take u).any (opensB p)) ∧ Below w5.heap.size w5 wr') (fun _ kk _ => k - (intOf kk).toNat)
      case atStart => exact ⟨0, by omega, rfl, by rw [List.take_zero]; rfl, Below.refl _ _⟩
      case round =>
        obtain ⟨u, hu, rfl, rfl, hBr2⟩ := hrel
        have hBw2 := HBW5.out.trans (hBr2.mono HBW5.out.size)
        have HBP2 := Lib.hid (HBP.out.below hBr2 hgl)
        obtain ⟨ov, hov⟩ : ∃ o, o = (r.take u).any (opensB p) := ⟨_, rfl⟩
        rw [← hov]
        have HOV := Lib.hid hov
        clear hov
        by_cases hlu : u < k
        · obtain ⟨b3, off3, rfl, hbl3, hx3⟩ := (HB.out.below hBw2).at_ (k := u) (by rw [← HK.out]; exact hlu)
          obtain ⟨x, hxx⟩ : ∃ x, x = r.getD u pd0 := ⟨_, rfl⟩
          have HTA := Lib.hid (show (r.take (u + 1)).any (opensB p) = (ov || opensB p x) by rw [any_take _ (by rw [← HK.out]; exact hlu), ← HOV.out, hxx])
          rw [← hxx] at hx3
          have HX3 := Lib.hid hx3
          have hxl : x.dg.length = 32 := hx3.1
          obtain ⟨⟨mp, me⟩, hm⟩ : ∃ m, m = makeOf x.party x.dg := ⟨_, rfl⟩
          have hml : mp.dg.length = 32 := by have := makeOf_len x.party x.dg; rw [← hm] at this; exact this
          have HOP := Lib.hid (show opensB p x = (decide (me = 0) && eqPd mp p) by rw [opensB, ← hm])
          have HM := Lib.hid (fun W (hW : Laid W) => bMake_any x.party x.dg hxl W hW)
          rw [← hm] at HM
          simp only [makeV] at HM
          clear hxx hx3 hm
          go_upto_region 16 with (first
            | (refine load_pd revealType revealInfo rfl _ rfl b3 (off3 + u * 33) x HX3.out rfl ?_)
            | (refine store_pd revealInfo rfl _ _ rfl (Blk.new' wr 69 _ rfl) x hxl rfl rfl rfl ?_; intro w6 bx6 hO6 hz6
               have hb6 : Below wr.heap.size wr w6 := ((Below.refl _ wr).alloc (Nat.le_refl _) _).trans (hO6.toBelow (by simp) (Nat.le_refl _))))
          have k0 : w6.cell? ⟨wr.heap.size, 0, none⟩ = some (.int .i64 x.party) := pd_party bx6
          have hrg := Lib.hid (pd_dg bx6 hxl)
          have HB6 := Lib.hid (hBr2.trans (hb6.mono hBr2.size))
          have HBW6 := Lib.hid (hBw2.trans (hb6.mono hBw2.size))
          have HBP6 := Lib.hid (HBP2.out.below hb6 HBP2.out.lt)
          clear hO6 hz6 hb6 bx6 hBr2 hBw2
          go_wp2_with (refine wpList_load_mid rfl 23 _ rfl wr.heap.size 1 rfl (dig x.dg).toList _ hrg.out Tryd.underlying23 rfl (by rw [Array.length_toList]; exact dig_info _ hxl) ?_)
          refine (HM.out w6 (HL.out.below HBW6.out)).mono ?_
          rintro e w7 ⟨rfl, hb7⟩
          clear k0
          go_upto_region 17 with (refine store_pd pledgeInfo rfl _ _ rfl (Blk.new' w7 61 _ rfl) mp hml rfl rfl rfl ?_; intro w8 bm8 hO8 hz8; have hb8 : Below w7.heap.size w7 w8 := ((Below.refl _ w7).alloc (Nat.le_refl _) _).trans (hO8.toBelow (by simp) (Nat.le_refl _)))
          have hb78 := hb7.trans (hb8.mono hb7.size)
          have HB8 := Lib.hid (HB6.out.trans (hb78.mono HB6.out.size))
          have HBP8 := Lib.hid (HBP6.out.below hb78 HBP6.out.lt)
          have HBM8 := Lib.hid bm8
          clear hO8 hz8 hb7 hb8 hb78 bm8
          cases ov with
          | true =>
            go_wp2_with (refine wpList_skip (by rfl) ?_)
            go_roundw
            case rel => exact ⟨u + 1, by omega, by go_num, by rw [HTA.out]; rfl, HB8.out⟩
            case measure => simp [intOf]; omega
          | false =>
            by_cases hme : me = 0
            · have g1 : (me == 0) = true := beq_iff_eq.2 hme
              have hres : opensB p x = eqPd mp p := by rw [HOP.out, decide_eq_true hme, Bool.true_and]
              have HRES := Lib.hid hres
              clear hme hres
              go_wp2_with (first
                | (refine load_pd_g pledgeType pledgeInfo (by rfl) _ rfl w7.heap.size 0 mp ⟨hml, rangeAt_of_blk_toArray HBM8.out⟩ rfl ?_)
                | (refine load_pd_g pledgeType pledgeInfo (by rfl) _ rfl G5 0 p ⟨hpl, rangeAt_of_blk_toArray HBP8.out⟩ rfl ?_)
                | (refine eql_pd_g (by rfl) _ _ _ rfl mp p hml hpl rfl rfl _ rfl ?_))
              go_roundw
              case rel => exact ⟨u + 1, by omega, by go_num, by rw [HTA.out, HRES.out]; simp, HB8.out⟩
              case measure => simp [intOf]; omega
            · have g1 : (me == 0) = false := beq_eq_false_iff_ne.2 hme
              have hres : opensB p x = false := by rw [HOP.out, decide_eq_false hme, Bool.false_and]
              have HRES := Lib.hid hres
              clear hme hres
              go_wp2_with (refine wpList_skip (by rfl) ?_)
              go_roundw
              case rel => exact ⟨u + 1, by omega, by go_num, by rw [HTA.out, HRES.out]; rfl, HB8.out⟩
              case measure => simp [intOf]; omega
        · obtain rfl : u = k := by omega
          have hov2 : ov = (openedBy r p).isSome := by rw [HOV.out, List.take_of_length_le (by rw [← HK.out]; exact Nat.le_refl _)]; exact HAO.out
          have HOV2 := Lib.hid hov2
          have HBX := Lib.hid (HB5.out.trans (hBr2.mono HB5.out.size))
          clear hov2 hBr2 hBw2
          cases ov with
          | true =>
            have HNI := Lib.hid (show (openedBy r p).isNone = false from isn_of_true HOV2.out)
            go_wp2_with fail
            go_roundw
            case rel => exact ⟨t + 1, by omega, by go_num, by rw [HMS.out, HNI.out, HAT.out]; simp, HBX.out⟩
            case measure => simp [intOf]; omega
          | false =>
            have hni : (openedBy r p).isNone = true := isn_of_false HOV2.out
            have hmp := HMP.out hni
            have HNI := Lib.hid hni
            have hlt2 : at_ < q := by rw [HQ.out]; exact (List.getElem?_eq_some_iff.1 hmp).1
            obtain ⟨mb, mo, rfl, cM⟩ := rd_at2 ((Rd.below RM.out HBX.out).more HBX.out.size) hlt2
            have hgd : (missingOf l r).getD at_ 0 = p.party := by rw [List.getD_eq_getElem?_getD, hmp]; rfl
            rw [hgd] at cM
            obtain ⟨pp, hpp⟩ : ∃ pp, pp = p.party := ⟨_, rfl⟩
            rw [← hpp] at cM
            have cp0 : wr.cell? ⟨G5, 0, none⟩ = some (.int .i64 pp) := by rw [hpp]; exact pd_party HBP2.out
            have ck1 : ∀ i : Ext wr, i.W.cell? ⟨mb, mo + at_, none⟩ = some (.int .i64 pp) := Ext.cell cM
            have ck2 : ∀ i : Ext wr, i.W.cell? ⟨G5, 0, none⟩ = some (.int .i64 pp) := Ext.cell cp0
            have g5 : decide ((q : Int) ≤ (at_ : Int)) = false := decide_eq_false (by omega)
            have g5n : decide (q ≤ at_) = false := decide_eq_false (by omega)
            have g6 : (pp != pp) = false := by simp
            clear hni hmp hgd hpp cM cp0
            go_wp2_with fail
            refine wp_region_quiet_ext (by kernel_rfl) (by kernel_rfl) ?_
            repeat (go_big_quiet_step (fail))
            refine wpQuiet_nil ?_
            rintro Wd ⟨⟨_, hWd⟩, rfl⟩
            have hBd := HBX.out.trans (hWd.mono HBX.out.size)
            go_wp2_with fail
            go_roundw
            case rel => exact ⟨t + 1, by omega, by go_num, by rw [HMS.out, HNI.out, if_pos rfl, List.length_append, List.length_singleton, ← HAT.out]; go_num, hBd⟩
            case measure => simp [intOf]; omega
    · obtain rfl : t = n := by omega
      have hqa : at_ = q := by rw [HAT.out, HQ.out, List.take_of_length_le (by rw [← HN.out]; exact Nat.le_refl _)]
      have g5 : ((at_ : Int) == (q : Int)) = true := beq_iff_eq.2 (by omega)
      clear hqa
      go_wp2_with fail
      go_ret
      exact ⟨rfl, hBw⟩
set_option linter.unusedVariables false in
theorem beaconMissing_any (A : Option Addr) (l : List Pd) (c : Nat) (hc : l.length ≤ c) (hcc : c ≤ 9223372036854775807) (hil : PdInts l) (B : Option Addr) (r : List Pd) (c2 : Nat) (hc2 : r.length ≤ c2) (hcc2 : c2 ≤ 9223372036854775807) (hir : PdInts r) (w : World) (hL : Laid w) (hA : PRd w w.heap.size A l) (hB : PRd w w.heap.size B r) :
    Calls Tryd.prog 16 #[.slice A l.length c, .slice B r.length c2] w (Ret (.bool true) w) := by
  by_cases h : inForm l ∧ inForm r
  · exact missing_good A B l r l.length c r.length c2 rfl rfl (by omega) hil hir w hL hA hB h.1 h.2
  · exact missing_bad A B l r l.length c r.length c2 rfl (by omega) rfl (by omega) hil hir w hL hA hB h
end Go.Proofs.YtibnikokgbfcdaaDoor

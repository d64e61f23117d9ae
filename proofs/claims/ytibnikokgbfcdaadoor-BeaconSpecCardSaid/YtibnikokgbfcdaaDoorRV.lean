/- Walk: podiumref31.Value. -/
import Derived.Test.YtibnikokgbfcdaaDoorRC
namespace Go.Proofs.YtibnikokgbfcdaaDoor
open Go Go.RowKit

theorem EL.renc {w : World} {mis op : Value} {x : V4} {e : List UInt8} (h : EL w mis op x e) : REnc w x 1 e := by
  obtain ⟨A, c, p, u, rfl, rfl, hp, hu, h1, h2, h3, -⟩ := h
  have hl := commitText_len p u (by omega) hu
  refine renc_list w A [V4.int p, V4.text ⟨u.toArray⟩] [intB p, textB u] c 0 rfl h3 h1 h2 (by unfold commitText at hl; omega) (by omega) fun i x e hx he => ?_
  rcases i with _ | _ | i
  · obtain rfl := Option.some.inj hx
    obtain rfl := Option.some.inj he
    exact renc_int w p (by omega)
  · obtain rfl := Option.some.inj hx
    obtain rfl := Option.some.inj he
    exact renc_text w ⟨u.toArray⟩ (by show u.toArray.size ≤ _; simp [hu])
  · cases hx
theorem IOwn.made (w : World) (B : Nat) (hB : B ≤ w.heap.size) : IOwn (w.alloc (.cells #[] 3)) B (.slice (some ⟨w.heap.size, 0, none⟩) 0 0) [] :=
  ⟨rfl, .inr ⟨w.heap.size, 0, #[], rfl, hB, by
    have h := heap_alloc_new w (.cells #[] 3)
    simpa using h, Nat.le_refl _, by simp only [maxLen]; omega, rfl, rfl⟩⟩
theorem VOwn.made (w : World) (B : Nat) (hB : B ≤ w.heap.size) : VOwn (w.alloc (.cells #[] 93)) B (.slice (some ⟨w.heap.size, 0, none⟩) 0 0) [] :=
  ⟨rfl, .inr ⟨w.heap.size, 0, #[], rfl, hB, by
    have h := heap_alloc_new w (.cells #[] 93)
    simpa using h, Nat.le_refl _, by simp only [maxLen]; omega, rfl, rfl⟩⟩
theorem VOwn.later {w w' : World} {base : Nat} {v : Value} {l : List V4} (h : VOwn w base v l) (hb : Below w.heap.size w w') : VOwn w' base v l :=
  World.ownsRow.kept h (row := none) ⟨hb.os, hb.tape, hb.output, hb.size, fun i hi _ => hb.block i hi⟩ (by cases v.ownBlock <;> simp)
theorem PdAt.party_ {w : World} {b o : Nat} {p : Pd} (h : PdAt w b o p) : w.cell? ⟨b, o, none⟩ = some (.int .i64 p.party) := h.2 0 _ rfl
theorem PdAt.dg_ {w : World} {b o : Nat} {p : Pd} (h : PdAt w b o p) : w.rangeAt b (o + 1) (dig p.dg).toList := fun j v hv => by
  have hj : j < 32 := by have := (List.getElem?_eq_some_iff.1 hv).1; simpa [dig_size, h.1] using this
  have := h.2 (1 + j) v (by rw [p.at_dg h.1 j hj]; simpa using hv)
  rwa [← Nat.add_assoc] at this
/-- An append of one value onto values of the call's own, at one operation. -/
theorem wp_app_value {o : Oper} {a : Act} {K : Act → World → Prop} {Q : Exit → Act → World → Prop} (s x : Operand) (ho : o.op = .call { callee := .builtin .append, args := #[s, x], argTypes := #[91, 91] })
    (base : Nat) (w : World) (v : Value) (l : List V4) (hs : a.eval s = v) (hown : VOwn w base v l) (y : V4) (hy : y.one) {g : Nat} {t : TypeId} (hg : Blk w g t #[.int .i64 y.kind, y.n, y.s, y.l])
    (hx : a.eval x = .slice (some ⟨g, 0, none⟩) 1 1) (h47 : l.length + 1 ≤ 1000000000000) (hbase : base ≤ w.heap.size)
    (h : ∀ v' w', VOwn w' base v' (l ++ [y]) → Grew w w' v v' → K (a.put o.dst v') w') : Oper.wp Tryd.prog o a w K Q := by
  obtain ⟨v', w', hrun, h2, h3⟩ := run_append_own_src (P := Tryd.prog) w base 91 91 o.type 93 vInfo (.agg #[.int .i64 0, .int .i64 0, .string ⟨#[]⟩, .slice none 0 0]) 4 56 Tryd.underlying91 vInfo_eq vInfo_zero vInfo_size vInfo_bytes rfl v l.length (vcells l) hown _ 1 y.cells (src_value y hy hg) (by simp only [maxLen]; omega) (by omega) hbase
  unfold Oper.wp execOp
  simp only [ho, resolve, invoke, builtin, Sem.run_bind, Sem.run_pure, Result.andThen_ok, List.map_toArray, List.map_cons, List.map_nil, hs, hx, hrun]
  exact h v' w' (by
    show World.ownsRow w' base 93 4 v' (l ++ [y]).length (vcells (l ++ [y]))
    rw [vcells_append, List.length_append, show vcells [y] = y.cells by simp [vcells]]; exact h2) h3
/-- What the outer loop has laid. -/
def RVRel (w1 : World) (l r : List Pd) (n : Nat) (mis op i : Value) (wr : World) : Prop :=
  ∃ (j : Nat) (xs : List V4), j ≤ n ∧ i = .int .i64 j ∧ IOwn wr w1.heap.size mis (missingOf (l.take j) r) ∧ VOwn wr w1.heap.size op xs ∧ xs.length = (textsOf (l.take j) r).length ∧ xs.length ≤ j ∧
    (∀ (i : Nat) x e, xs[i]? = some x → (textsOf (l.take j) r)[i]? = some e → EL wr mis op x e) ∧ (∀ g, mis.ownBlock = some g → op.ownBlock ≠ some g) ∧ Below w1.heap.size w1 wr
/-- What the inner loop has laid. -/
def RVIn (w1 : World) (T : List (List UInt8)) (M : List Int) (mis : Value) (r : List Pd) (p : Pd) (k : Nat) (op fv kk : Value) (wr : World) : Prop :=
  ∃ (u : Nat) (ys : List V4), u ≤ k ∧ kk = .int .i64 u ∧ fv = .bool ((r.take u).any (opensP p)) ∧ IOwn wr w1.heap.size mis M ∧ VOwn wr w1.heap.size op ys ∧ ys.length = (T ++ revTo r p u).length ∧
    (∀ (i : Nat) x e, ys[i]? = some x → (T ++ revTo r p u)[i]? = some e → EL wr mis op x e) ∧ (∀ g, mis.ownBlock = some g → op.ownBlock ≠ some g) ∧ Below w1.heap.size w1 wr
theorem isn_t {α : Type} {o : Option α} (h : true = o.isSome) : o.isNone = false := by
  cases o with
  | none => cases h
  | some v => rfl
theorem isn_f {α : Type} {o : Option α} (h : false = o.isSome) : o.isNone = true := by
  cases o with
  | none => rfl
  | some v => cases h
theorem textsOf_le (l m : List Pd) : (textsOf l m).length ≤ l.length := List.length_filterMap_le _ _
set_option maxRecDepth 100000 in
set_option linter.unusedSimpArgs false in
set_option linter.unusedVariables false in
set_option maxHeartbeats 8000000 in
theorem r31Value_good (A B : Option Addr) (l r : List Pd) (n c k c2 : Nat) (hn : n = l.length) (hk : k = r.length) (hil : PdInts l) (hir : PdInts r) (w : World) (hA : PRd w w.heap.size A l) (hB : PRd w w.heap.size B r)
    (hf : inForm l) (hg : inForm r) : Calls Tryd.prog 52 #[.slice A n c, .slice B k c2] w (ValPost l r w) := by
  have hn24 := hf.length
  rw [← hn] at hn24
  have hk24 := hg.length
  rw [← hk] at hk24
  have HFO := Lib.hid (fun W (hb : Below w.heap.size w W) => r31Formed_any A B l r n c k c2 hn hk (by omega) (by omega) hil hir W ((hA.below hb).more hb.size) ((hB.below hb).more hb.size))
  rw [formB_true.2 hf, formB_true.2 hg, Bool.and_true] at HFO
  have HA := Lib.hid hA
  have HB := Lib.hid hB
  have HN := Lib.hid hn
  have HK := Lib.hid hk
  have HF := Lib.hid hf
  have HG := Lib.hid hg
  clear hA hB hn hk hf hg hil hir
  go_enter Tryd.func52, Tryd.ntmps52
  go_wp2_with fail
  refine calls_gen (fun W => Blk W w.heap.size 23 (dig zdg) ∧ Below w.heap.size w W) ⟨Blk.new _ _ _, (Below.refl _ _).alloc (Nat.le_refl _) _⟩ (fun W0 ⟨bz, hb0⟩ => ?_)
  refine (HFO.out W0 hb0).mono ?_
  rintro e w1 ⟨rfl, hb1⟩
  have BZ := Lib.hid (bz.below hb1 bz.lt)
  have HB1 := Lib.hid (hb0.trans (hb1.mono hb0.size))
  have hz1 : w.heap.size < w1.heap.size := Nat.lt_of_lt_of_le bz.lt hb1.size
  clear bz hb0 hb1 HFO
  go_wp2_with fail
  go_loopw [7, 8, 9] (fun mv ov ii wr => RVRel w1 l r n mv ov ii wr) (fun _ _ ii _ => n - (intOf ii).toNat)
  case atStart =>
    refine ⟨0, [], by omega, rfl, IOwn.alloc (IOwn.made w1 _ (Nat.le_refl _)) _, ?_, rfl, Nat.le_refl _, fun i x e h => by simp at h, fun g e e2 => ?_, ((Below.refl _ w1).alloc (Nat.le_refl _) _).alloc (by simp) _⟩
    · have := VOwn.made (w1.alloc (.cells #[] 3)) w1.heap.size (by simp)
      simpa using this
    · cases e
      have := Option.some.inj e2
      simp only [World.size_alloc] at this
      omega
  case round =>
    obtain ⟨j, xs, hj, rfl, hI, hV, hxl, hxj, hel, hne, hBr⟩ := hrel
    have hBw := HB1.out.trans (hBr.mono HB1.out.size)
    have HI := Lib.hid hI
    have HV := Lib.hid hV
    have HXL := Lib.hid hxl
    have HEL := Lib.hid hel
    have HNE := Lib.hid hne
    have HBR := Lib.hid hBr
    have HBW := Lib.hid hBw
    clear hI hV hel hne hBr hBw hxl
    by_cases hlt : j < n
    · obtain ⟨bb, off, rfl, hbl, hx⟩ := (HA.out.below HBW.out).at_ (k := j) (by rw [← HN.out]; exact hlt)
      obtain ⟨p, hp⟩ : ∃ p, p = l.getD j pd0 := ⟨_, rfl⟩
      have HMS := Lib.hid (show missingOf (l.take (j + 1)) r = missingOf (l.take j) r ++ if (openedBy r p).isNone then [p.party] else [] by rw [hp]; exact missingOf_step (by rw [← HN.out]; exact hlt))
      have HTS := Lib.hid (show textsOf (l.take (j + 1)) r = textsOf (l.take j) r ++ revTo r p r.length by rw [revTo_all HG.out, hp]; exact textsOf_step (by rw [← HN.out]; exact hlt))
      rw [← hp] at hx
      have HPE := Lib.hid hp
      have hpl : p.dg.length = 32 := hx.1
      have HAO := Lib.hid (any_opensP HG.out p)
      obtain ⟨T, hT⟩ : ∃ T, T = textsOf (l.take j) r := ⟨_, rfl⟩
      obtain ⟨M, hM⟩ : ∃ M, M = missingOf (l.take j) r := ⟨_, rfl⟩
      have hMl : M.length ≤ 24 := by rw [hM]; exact Nat.le_trans (missingOf_le _ _) (by rw [List.length_take]; omega)
      rw [← hM] at HI HMS
      rw [← hT] at HXL HEL HTS
      have hTl : T.length ≤ 24 := by rw [← HXL.out]; omega
      clear hx hp hT hM
      go_wp2_with fail
      go_loopw [8, 10, 11] (fun ov fv kk wr' => RVIn w1 T M u7 r p k ov fv kk wr') (fun _ _ kk _ => k - (intOf kk).toNat)
      case atStart => exact ⟨0, xs, by omega, rfl, by rw [List.take_zero]; rfl, HI.out, HV.out, by rw [revTo_zero, List.append_nil]; exact HXL.out, by rw [revTo_zero, List.append_nil]; exact HEL.out, HNE.out, HBR.out⟩
      case round =>
        clear HI HV HXL HEL HNE hxj
        obtain ⟨u, ys, hu, rfl, rfl, hI, hV, hyl, hel, hne, hBr2⟩ := hrel
        have hBw2 := HB1.out.trans (hBr2.mono HB1.out.size)
        obtain ⟨fo, hfo⟩ : ∃ f, f = (r.take u).any (opensP p) := ⟨_, rfl⟩
        rw [← hfo]
        have HFO := Lib.hid hfo
        have HI2 := Lib.hid hI
        have HV2 := Lib.hid hV
        have HYL := Lib.hid hyl
        have HEL2 := Lib.hid hel
        have HNE2 := Lib.hid hne
        have HBR2 := Lib.hid hBr2
        have HBW2 := Lib.hid hBw2
        have hyn : ys.length ≤ 100 := by have := revTo_le r p u; rw [hyl, List.length_append]; omega
        clear hI hV hyl hel hne hBr2 hBw2 hfo
        by_cases hlu : u < k
        · obtain ⟨b3, off3, rfl, hbl3, hx3⟩ := (HB.out.below HBW2.out).at_ (k := u) (by rw [← HK.out]; exact hlu)
          obtain ⟨x, hxx⟩ : ∃ x, x = r.getD u pd0 := ⟨_, rfl⟩
          have HREV0 := Lib.hid (show revTo r p (u + 1) = revTo r p u ++ if opensP p x then [commitText x.party.toNat x.dg] else [] by rw [hxx]; exact revTo_succ (by rw [← HK.out]; exact hlu) p)
          have HANY0 := Lib.hid (show (r.take (u + 1)).any (opensP p) = (fo || opensP p x) by rw [any_take' _ (by rw [← HK.out]; exact hlu), ← HFO.out, hxx])
          have hxr : 0 ≤ x.party ∧ x.party < 24 := by rw [hxx]; exact ⟨(HG.out u (by rw [← HK.out]; exact hlu)).1, (HG.out u (by rw [← HK.out]; exact hlu)).2.1⟩
          rw [← hxx] at hx3
          have hDl : x.dg.length = 32 := hx3.1
          have HX3 := Lib.hid hx3
          have HCALL := Lib.hid (show ∀ i : Ext wr, Calls Tryd.prog 59 #[.agg p.cells.toArray, .agg x.cells.toArray] i.W (Ret (.bool (opensP p x)) i.W) from fun i => r31Opens_any p x hpl hDl hxr i.W)
          have HPX := Lib.hid (show PdAt wr bb (off + j * 33) p by
            obtain ⟨b', o', e', -, h'⟩ := (HA.out.below HBW2.out).at_ (k := j) (by rw [← HN.out]; exact hlt)
            cases e'
            rw [HPE.out]
            exact h')
          have HXE := Lib.hid hxx
          clear hxx hx3
          obtain ⟨ob, hob⟩ : ∃ ob, ob = opensP p x := ⟨_, rfl⟩
          rw [← hob] at HCALL HREV0 HANY0
          clear hob
          go_wp2_with fail
          refine wp_region_quiet_ext (by kernel_rfl) (by kernel_rfl) ?_
          repeat (first
            | go_big_quiet_step ((go_at_call 59; exact Ext.call (HCALL.out _)))
            | (go_big_quiet_want; refine quiet_load_mid 61 _ rfl bb (off + j * 33) rfl _ _ (Ext.range HPX.out.2) Tryd.underlying61 rfl (by rw [p.cells_len hpl]; exact pledgeInfo) ?_; simp only [Act.put, List.setIfInBounds_toArray, List.set_cons_zero, List.set_cons_succ]; go_big_quiet_on)
            | (go_big_quiet_want; refine quiet_load_mid 69 _ rfl b3 (off3 + u * 33) rfl _ _ (Ext.range HX3.out.2) Tryd.underlying69 rfl (by rw [x.cells_len hDl]; exact revealInfo) ?_; simp only [Act.put, List.setIfInBounds_toArray, List.set_cons_zero, List.set_cons_succ]; go_big_quiet_on))
          refine wpQuiet_nil ?_
          rintro WD ⟨⟨_, hWD⟩, rfl⟩
          have HID := Lib.hid (IOwn.below HI2.out hWD)
          have HVD := Lib.hid (HV2.out.later hWD)
          have HELD := Lib.hid (fun i x e h1 h2 => (HEL2.out i x e h1 h2).below hWD)
          have HBD := Lib.hid (HBR2.out.trans (hWD.mono HBR2.out.size))
          have HBWD := Lib.hid (HBW2.out.trans (hWD.mono HBW2.out.size))
          have HSZ := Lib.hid (show w1.heap.size ≤ WD.heap.size from Nat.le_trans HBR2.out.size hWD.size)
          have HLI := Lib.hid (fun g e => (World.ownsRow.lt HID.out g e))
          have HLV := Lib.hid (fun g e => (World.ownsRow.lt HVD.out g e))
          clear hWD HI2 HV2 HEL2 HBR2 HBW2
          cases ob with
          | false =>
            go_wp2_with fail
            go_roundw
            case rel => exact ⟨u + 1, ys, by omega, by go_num, by rw [HANY0.out, Bool.or_false], HID.out, HVD.out, by rw [HREV0.out]; simpa using HYL.out, by rw [HREV0.out]; simpa using HELD.out, HNE2.out, HBD.out⟩
            case measure => simp [intOf]; omega
          | true =>
            obtain ⟨xp, hxp⟩ : ∃ xp : Nat, x.party = xp := ⟨x.party.toNat, by omega⟩
            obtain ⟨D, hD⟩ : ∃ D, D = x.dg := ⟨_, rfl⟩
            have HREV := Lib.hid (show revTo r p (u + 1) = revTo r p u ++ [commitText xp D] by rw [HREV0.out, hxp, hD]; rfl)
            have HANY := Lib.hid (show (r.take (u + 1)).any (opensP p) = (fo || true) from HANY0.out)
            have hxp24 : xp < 24 := by omega
            have hat : PdAt WD b3 (off3 + u * 33) x := by
              obtain ⟨b', o', e', -, h'⟩ := (HB.out.below HBWD.out).at_ (k := u) (by rw [← HK.out]; exact hlu)
              cases e'
              rw [HXE.out]
              exact h'
            have hbn3 : b3 < WD.heap.size := by have := HSZ.out; omega
            have HNB := Lib.hid (show some b3 ≠ u8.ownBlock from fun e => by have := (HLV.out _ e.symm).1; omega)
            have HCK := Lib.hid (show ∀ W', WD.grownBy W' u8.ownBlock → W'.cell? ⟨b3, off3 + u * 33, none⟩ = some (.int .i64 (xp : Int)) from fun W' h => by
              rw [World.cell?_of_block (a := ⟨b3, off3 + u * 33, none⟩) (h.block b3 hbn3 HNB.out), hat.party_, hxp])
            have HRK := Lib.hid (show ∀ W', WD.grownBy W' u8.ownBlock → W'.rangeAt b3 (off3 + u * 33 + 1) (dig D).toList from fun W' h j v hv => by
              rw [World.cell?_of_block (a := ⟨b3, off3 + u * 33 + 1 + j, none⟩) (h.block b3 hbn3 HNB.out)]
              rw [hD] at hv
              exact hat.dg_ j v hv)
            have HSB := Lib.hid (show ∀ W', Below WD.heap.size WD W' → WD.grownBy W' u8.ownBlock from fun W' h => ⟨h.os, h.tape, h.output, h.size, fun i hi _ => h.block i hi⟩)
            rw [← hD] at hDl
            clear hat hD hxp
            go_wp2_with fail
            refine wp_region_held_drew (S := fun W' => WD.grownBy W' u8.ownBlock) (by kernel_rfl) (HSB.out _ (Below.refl _ _).drew) (fun hS => ?_)
            have hk0 : Below WD.heap.size WD WD.drew := (Below.refl _ _).drew
            refine wpAnyH_take (i := 0) (v := u8) rfl (by kernel_rfl) (by kernel_rfl) (by kernel_rfl) (fun _ _ _ h => h) (Or.inl ⟨by rfl, fun W' hS' => by go_simp⟩) hS ?_
            simp only [Act.put, List.getElem_toArray, List.getElem_cons_zero, List.getElem_cons_succ, List.setIfInBounds_toArray, List.set_cons_zero, List.set_cons_succ]
            refine wpAnyH_take (i := 1) (v := .slice (some ⟨b3, off3, none⟩) k c2) rfl (by kernel_rfl) (by kernel_rfl) (by kernel_rfl) (fun _ _ _ h => h) (Or.inl ⟨by rfl, fun W' hS' => by go_simp⟩) hS ?_
            simp only [Act.put, List.getElem_toArray, List.getElem_cons_zero, List.getElem_cons_succ, List.setIfInBounds_toArray, List.set_cons_zero, List.set_cons_succ]
            refine wpAnyH_take (i := 2) (v := .int .i64 u) rfl (by kernel_rfl) (by kernel_rfl) (by kernel_rfl) (fun _ _ _ h => h) (Or.inl ⟨by rfl, fun W' hS' => by go_simp⟩) hS ?_
            simp only [Act.put, List.getElem_toArray, List.getElem_cons_zero, List.getElem_cons_succ, List.setIfInBounds_toArray, List.set_cons_zero, List.set_cons_succ]
            refine wpAnyH_take (i := 3) (v := .pointer (some ⟨b3, off3 + u * 33, none⟩)) rfl (by kernel_rfl) (by kernel_rfl) (by kernel_rfl) (fun _ _ _ h => h) (Or.inl ⟨by rfl, fun W' hS' => by go_simp⟩) hS ?_
            simp only [Act.put, List.getElem_toArray, List.getElem_cons_zero, List.getElem_cons_succ, List.setIfInBounds_toArray, List.set_cons_zero, List.set_cons_succ]
            refine wpAnyH_take (i := 4) (v := .pointer (some ⟨b3, off3 + u * 33, none⟩)) rfl (by kernel_rfl) (by kernel_rfl) (by kernel_rfl) (fun _ _ _ h => h) (Or.inl ⟨by rfl, fun W' hS' => by go_simp⟩) hS ?_
            simp only [Act.put, List.getElem_toArray, List.getElem_cons_zero, List.getElem_cons_succ, List.setIfInBounds_toArray, List.set_cons_zero, List.set_cons_succ]
            refine wpAnyH_take (i := 5) (v := .int .i64 (xp : Int)) rfl (by kernel_rfl) (by kernel_rfl) (by kernel_rfl) (fun _ _ _ h => h) (Or.inl ⟨by rfl, fun W' hS' => by have := HCK.out W' hS'; go_simp⟩) hS ?_
            simp only [Act.put, List.getElem_toArray, List.getElem_cons_zero, List.getElem_cons_succ, List.setIfInBounds_toArray, List.set_cons_zero, List.set_cons_succ]
            refine wpAnyH_take (i := 7) (v := .slice (some ⟨b3, off3, none⟩) k c2) rfl (by kernel_rfl) (by kernel_rfl) (by kernel_rfl) (fun _ _ _ h => h) (Or.inl ⟨by rfl, fun W' hS' => by go_simp⟩) hS ?_
            simp only [Act.put, List.getElem_toArray, List.getElem_cons_zero, List.getElem_cons_succ, List.setIfInBounds_toArray, List.set_cons_zero, List.set_cons_succ]
            refine wpAnyH_take (i := 8) (v := .int .i64 u) rfl (by kernel_rfl) (by kernel_rfl) (by kernel_rfl) (fun _ _ _ h => h) (Or.inl ⟨by rfl, fun W' hS' => by go_simp⟩) hS ?_
            simp only [Act.put, List.getElem_toArray, List.getElem_cons_zero, List.getElem_cons_succ, List.setIfInBounds_toArray, List.set_cons_zero, List.set_cons_succ]
            refine wpAnyH_take (i := 9) (v := .pointer (some ⟨b3, off3 + u * 33, none⟩)) rfl (by kernel_rfl) (by kernel_rfl) (by kernel_rfl) (fun _ _ _ h => h) (Or.inl ⟨by rfl, fun W' hS' => by go_simp⟩) hS ?_
            simp only [Act.put, List.getElem_toArray, List.getElem_cons_zero, List.getElem_cons_succ, List.setIfInBounds_toArray, List.set_cons_zero, List.set_cons_succ]
            refine wpAnyH_take (i := 10) (v := .pointer (some ⟨b3, off3 + u * 33 + 1, none⟩)) rfl (by kernel_rfl) (by kernel_rfl) (by kernel_rfl) (fun _ _ _ h => h) (Or.inl ⟨by rfl, fun W' hS' => by go_simp⟩) hS ?_
            simp only [Act.put, List.getElem_toArray, List.getElem_cons_zero, List.getElem_cons_succ, List.setIfInBounds_toArray, List.set_cons_zero, List.set_cons_succ]
            refine wpAnyH_take (i := 11) (v := .agg (dig D)) rfl (by kernel_rfl) (by kernel_rfl) (by kernel_rfl) (fun _ _ _ h => h) (yields_mid_dig (by rfl) _ rfl _ _ rfl D hDl (fun W' hS' => HRK.out W' hS')) hS ?_
            simp only [Act.put, List.getElem_toArray, List.getElem_cons_zero, List.getElem_cons_succ, List.setIfInBounds_toArray, List.set_cons_zero, List.set_cons_succ]
            refine wpAnyH_ready (rs := [6]) (by kernel_rfl) (by simp) ?_
            refine AllReadyH.cons rfl (fun Kq hKq => ?_) AllReadyH.nil
            simp only [List.getElem_toArray, List.getElem_cons_zero, List.getElem_cons_succ]
            go_simp
            refine (r31Number_any (xp : Int) _).mono ?_
            rintro e W1 ⟨rfl, hb1⟩
            have hk1 := hk0.trans (hb1.mono hk0.size)
            have hS1 := HSB.out _ hk1
            refine hKq.out _ _ hS1 (fun _ => ?_)
            clear hKq Kq hb1 hS hk0
            refine wpAnyH_ready (rs := [12]) (by kernel_rfl) (by simp) ?_
            refine AllReadyH.cons rfl (fun Kq hKq => ?_) AllReadyH.nil
            simp only [List.getElem_toArray, List.getElem_cons_zero, List.getElem_cons_succ]
            go_simp
            refine (r31Text_any D hDl _).mono ?_
            rintro e W2 ⟨rfl, hb2⟩
            have hk2 := hk1.trans (hb2.mono hk1.size)
            have hS2 := HSB.out _ hk2
            refine hKq.out _ _ hS2 (fun _ => ?_)
            clear hKq Kq hb2 hS1 hk1
            refine wpAnyH_ready (rs := [13]) (by kernel_rfl) (by simp) ?_
            refine AllReadyH.cons rfl (fun Kq hKq => ?_) AllReadyH.nil
            simp only [List.getElem_toArray, List.getElem_cons_zero, List.getElem_cons_succ]
            go_simp
            have hE0 : Elems (W2.alloc (.cells #[.int .i64 1, .int .i64 (xp : Int), .string ⟨#[]⟩, .slice none 0 0, .int .i64 2, .int .i64 0, .string ⟨D.toArray⟩, .slice none 0 0] 93)) (W2.alloc (.cells #[.int .i64 1, .int .i64 (xp : Int), .string ⟨#[]⟩, .slice none 0 0, .int .i64 2, .int .i64 0, .string ⟨D.toArray⟩, .slice none 0 0] 93)).heap.size (some ⟨W2.heap.size, 0, none⟩) [V4.int xp, V4.text ⟨D.toArray⟩] := elems_of_blk [V4.int xp, V4.text ⟨D.toArray⟩] (Blk.new W2 _ _)
            have hk3 : Below WD.heap.size WD (W2.alloc (.cells #[.int .i64 1, .int .i64 (xp : Int), .string ⟨#[]⟩, .slice none 0 0, .int .i64 2, .int .i64 0, .string ⟨D.toArray⟩, .slice none 0 0] 93)) := hk2.alloc hk2.size _
            have hS3 := HSB.out _ hk3
            refine hKq.out _ _ hS3 (fun _ => ?_)
            clear hKq Kq hS2
            obtain ⟨ge, hge⟩ : ∃ ge, ge = W2.heap.size := ⟨_, rfl⟩
            have hgeD : WD.heap.size ≤ ge := by rw [hge]; exact hk2.size
            rw [← hge] at hE0 ⊢
            have hge3 : ge < (W2.alloc (.cells #[.int .i64 1, .int .i64 (xp : Int), .string ⟨#[]⟩, .slice none 0 0, .int .i64 2, .int .i64 0, .string ⟨D.toArray⟩, .slice none 0 0] 93)).heap.size := by rw [hge]; simp
            generalize W2.alloc (.cells #[.int .i64 1, .int .i64 (xp : Int), .string ⟨#[]⟩, .slice none 0 0, .int .i64 2, .int .i64 0, .string ⟨D.toArray⟩, .slice none 0 0] 93) = W3 at hE0 hS3 hk3 hge3 ⊢
            clear hge hk2
            refine wpAnyH_ready (rs := [14]) (by kernel_rfl) (by simp) ?_
            refine AllReadyH.cons rfl (fun Kq hKq => ?_) AllReadyH.nil
            simp only [List.getElem_toArray, List.getElem_cons_zero, List.getElem_cons_succ]
            go_simp
            refine (r31List_any (some ⟨ge, 0, none⟩) 2 2 _).mono ?_
            rintro e W4 ⟨rfl, hb4⟩
            have hE4 := hE0.later hb4
            have hk4 := hk3.trans (hb4.mono hk3.size)
            have hS4 := HSB.out _ hk4
            have hge4 := Nat.lt_of_lt_of_le hge3 hb4.size
            refine hKq.out _ _ hS4 (fun _ => ?_)
            clear hKq Kq hb4 hS3 hk3 hE0 hge3
            refine wpAnyH_ready (rs := [15]) (by kernel_rfl) (by simp) ?_
            refine AllReadyH.cons rfl (fun Kq hKq => ?_) AllReadyH.nil
            simp only [List.getElem_toArray, List.getElem_cons_zero, List.getElem_cons_succ]
            go_simp
            have hk5 : Below WD.heap.size WD (W4.alloc (.cells #[.int .i64 3, .int .i64 0, .string ⟨#[]⟩, .slice (some ⟨ge, 0, none⟩) 2 2] 93)) := hk4.alloc hk4.size _
            have hS5 := HSB.out _ hk5
            have hE5 := hE4.later ((Below.refl _ W4).alloc (Nat.le_refl _) (.cells #[.int .i64 3, .int .i64 0, .string ⟨#[]⟩, .slice (some ⟨ge, 0, none⟩) 2 2] 93))
            have bn5 : Blk (W4.alloc (.cells #[.int .i64 3, .int .i64 0, .string ⟨#[]⟩, .slice (some ⟨ge, 0, none⟩) 2 2] 93)) W4.heap.size 93 #[.int .i64 3, .int .i64 0, .string ⟨#[]⟩, .slice (some ⟨ge, 0, none⟩) 2 2] := Blk.new _ _ _
            have hge5 : ge < (W4.alloc (.cells #[.int .i64 3, .int .i64 0, .string ⟨#[]⟩, .slice (some ⟨ge, 0, none⟩) 2 2] 93)).heap.size := by simp only [World.size_alloc]; omega
            refine hKq.out _ _ hS5 (fun _ => ?_)
            clear hKq Kq hS4 hk4 hE4 hge4
            obtain ⟨gf, hgf⟩ : ∃ gf, gf = W4.heap.size := ⟨_, rfl⟩
            rw [← hgf] at bn5 ⊢
            generalize W4.alloc (.cells #[.int .i64 3, .int .i64 0, .string ⟨#[]⟩, .slice (some ⟨ge, 0, none⟩) 2 2] 93) = W5 at hE5 hS5 hk5 bn5 hge5 ⊢
            clear hgf
            have hV5 : VOwn W5 w1.heap.size u8 ys := HVD.out.later hk5
            have hb5 : w1.heap.size ≤ W5.heap.size := by have := hk5.size; have := HSZ.out; omega
            refine wpAnyH_ready (rs := [16]) (by kernel_rfl) (by simp) ?_
            refine AllReadyH.cons rfl (fun Kq hKq => ?_) AllReadyH.nil
            simp only [List.getElem_toArray, List.getElem_cons_zero, List.getElem_cons_succ]
            rw [if_pos (by rfl)]
            refine wp_app_value _ _ rfl w1.heap.size _ u8 ys rfl hV5 (V4.list (some ⟨ge, 0, none⟩) 2 2) ⟨rfl, rfl, rfl⟩ bn5 rfl (by omega) hb5 ?_
            intro v7 w7 hown7 hg7
            have hg0 := (Grew.of_below hk5 u8).trans hg7
            refine hKq.out _ _ hg0.1 (fun _ => ?_)
            clear hKq Kq hS5 hV5 hb5
            refine wpAnyH_take (i := 17) (v := v7) rfl (by kernel_rfl) (by kernel_rfl) (by kernel_rfl) (fun _ _ _ h => h) (Or.inl ⟨by rfl, fun W' hS' => by go_simp⟩) hg0.1 ?_
            simp only [Act.put, List.getElem_toArray, List.getElem_cons_zero, List.getElem_cons_succ, List.setIfInBounds_toArray, List.set_cons_zero, List.set_cons_succ]
            refine wpAnyH_done (by kernel_rfl) ?_ _
            have hE7 : Elems w7 w7.heap.size (some ⟨ge, 0, none⟩) [V4.int xp, V4.text ⟨D.toArray⟩] := hE5.grown hg7.1 (fun b e e2 => by
              cases e
              have : ge < WD.heap.size := (HLV.out _ e2.symm).2
              omega)
            have hEL7 : EL w7 u7 v7 (V4.list (some ⟨ge, 0, none⟩) 2 2) (commitText xp D) := ⟨some ⟨ge, 0, none⟩, 2, xp, D, rfl, rfl, hxp24, hDl, by omega, by omega, hE7, fun b e => by
              cases e
              refine ⟨fun e2 => ?_, fun e2 => ?_⟩
              · have : ge < WD.heap.size := (HLI.out _ e2).2
                omega
              · rcases hg7.own _ e2 with h | h
                · have : ge < WD.heap.size := (HLV.out _ h).2
                  omega
                · have : W5.heap.size ≤ ge := h
                  omega⟩
            have hI7 : IOwn w7 w1.heap.size u7 M := World.ownsRow.kept HID.out hg0.1 (own_apart' HNE2.out)
            have hB7 := HBD.out.trans (hg0.below HSZ.out fun g e => (HLV.out g e).1)
            have hel7 : ∀ (i : Nat) z e, (ys ++ [V4.list (some ⟨ge, 0, none⟩) 2 2])[i]? = some z → (T ++ revTo r p (u + 1))[i]? = some e → EL w7 u7 v7 z e := fun i z e h1 h2 => by
              rw [HREV.out, ← List.append_assoc] at h2
              rcases Nat.lt_or_ge i ys.length with h | h
              · rw [List.getElem?_append_left h] at h1
                rw [List.getElem?_append_left (by rw [← HYL.out]; exact h)] at h2
                exact (HELD.out i z e h1 h2).step hg0.1 (fun g e => .inr e) (fun g e => .inl e) hg0.own
              · have hi := (List.getElem?_eq_some_iff.1 h1).1
                rw [List.length_append, List.length_singleton] at hi
                obtain rfl : i = ys.length := by omega
                rw [List.getElem?_append_right (Nat.le_refl _), Nat.sub_self] at h1
                rw [HYL.out, List.getElem?_append_right (Nat.le_refl _), Nat.sub_self] at h2
                obtain rfl := Option.some.inj h1
                obtain rfl := Option.some.inj h2
                exact hEL7
            have hne7 : ∀ g, u7.ownBlock = some g → v7.ownBlock ≠ some g := fun g e e2 => by
              rcases hg0.own g e2 with h | h
              · exact HNE2.out g e h
              · have := (HLI.out g e).2
                omega
            have HEL7 := Lib.hid hel7
            have HOWN7 := Lib.hid hown7
            have HI7 := Lib.hid hI7
            have HNE7 := Lib.hid hne7
            have HB7 := Lib.hid hB7
            clear hE7 hEL7 hel7 hown7 hI7 hne7 hB7 hg0 hg7 hE5 bn5 hk5
            go_wp2_with fail
            go_roundw
            case rel => exact ⟨u + 1, ys ++ [V4.list (some ⟨ge, 0, none⟩) 2 2], by omega, by go_num, by rw [HANY.out]; simp, HI7.out, HOWN7.out, by rw [HREV.out, ← List.append_assoc, List.length_append, List.length_append (bs := [commitText xp D]), HYL.out]; rfl, HEL7.out, HNE7.out, HB7.out⟩
            case measure => simp [intOf]; omega
        · obtain rfl : u = k := by omega
          have HFS := Lib.hid (show fo = (openedBy r p).isSome by rw [HFO.out, List.take_of_length_le (by rw [← HK.out]; exact Nat.le_refl _)]; exact HAO.out)
          have HPC := Lib.hid (show wr.cell? ⟨bb, off + j * 33, none⟩ = some (.int .i64 p.party) by
            obtain ⟨b', o', e', -, h'⟩ := (HA.out.below HBW2.out).at_ (k := j) (by rw [← HN.out]; exact hlt)
            cases e'
            rw [HPE.out]
            exact h'.party_)
          rw [HK.out] at HYL HEL2
          rw [← HTS.out] at HYL HEL2
          cases fo with
          | true =>
            have HNI := Lib.hid (show (openedBy r p).isNone = false from isn_t HFS.out)
            go_wp2_with fail
            go_roundw
            case rel => exact ⟨j + 1, ys, by omega, by go_num, by rw [HMS.out, HNI.out]; simpa using HI2.out, HV2.out, HYL.out, by rw [HYL.out]; exact Nat.le_trans (textsOf_le _ _) (by rw [List.length_take]; omega), HEL2.out, HNE2.out, HBR2.out⟩
            case measure => simp [intOf]; omega
          | false =>
            have HNI := Lib.hid (show (openedBy r p).isNone = true from isn_f HFS.out)
            obtain ⟨pp, hpp⟩ : ∃ pp, pp = p.party := ⟨_, rfl⟩
            have hpc := HPC.out
            rw [← hpp] at hpc HMS
            have hIA := Lib.hid (IOwn.alloc HI2.out (.cells #[.int .i64 pp] 3))
            have hbs : w1.heap.size ≤ (wr.alloc (.cells #[.int .i64 pp] 3)).heap.size := by have := HBR2.out.size; simp only [World.size_alloc]; omega
            clear hpp
            go_wp2_with (at_builtin; refine app_int rfl _ _ rfl w1.heap.size u7 M rfl hIA.out pp (Blk.new _ _ _) rfl (by omega) hbs ?_; intro v7 w7 hown7 hg7)
            have hg0 := hg7.alloc_first
            have HLI := Lib.hid (fun g e => (World.ownsRow.lt HI2.out g e))
            have HLV := Lib.hid (fun g e => (World.ownsRow.lt HV2.out g e))
            have HV7 := Lib.hid (show VOwn w7 w1.heap.size u8 ys from World.ownsRow.kept HV2.out hg0.1 (own_apart HNE2.out))
            have HEL7 := Lib.hid (fun i x e h1 h2 => (HEL2.out i x e h1 h2).step hg0.1 (fun g e => .inl e) hg0.own (fun g e => .inl e))
            have HNE7 := Lib.hid (show ∀ g, v7.ownBlock = some g → u8.ownBlock ≠ some g from fun g e e2 => by
              rcases hg0.own g e with h | h
              · exact HNE2.out g h e2
              · have := (HLV.out g e2).2; omega)
            have HB7 := Lib.hid (HBR2.out.trans (hg0.below HBR2.out.size fun g e => (HLI.out g e).1))
            have HO7 := Lib.hid hown7
            clear hown7 hg7 hg0
            go_roundw
            case rel => exact ⟨j + 1, ys, by omega, by go_num, by rw [HMS.out, HNI.out]; exact HO7.out, HV7.out, HYL.out, by rw [HYL.out]; exact Nat.le_trans (textsOf_le _ _) (by rw [List.length_take]; omega), HEL7.out, HNE7.out, HB7.out⟩
            case measure => simp [intOf]; omega
    · obtain rfl : j = n := by omega
      rw [List.take_of_length_le (by rw [← HN.out]; exact Nat.le_refl _)] at HI HXL HEL
      obtain ⟨AX, cx, rfl, hcx, hcx2, hEX⟩ := HV.out.elems
      obtain ⟨AM, cm, rfl, hcm, hcm2, -⟩ := HI.out.shape
      obtain ⟨q, hq⟩ : ∃ q, q = xs.length := ⟨_, rfl⟩
      have hl1000 : ∀ e ∈ textsOf l r, e.length ≤ 1000 := fun e he => by
        obtain ⟨i, hi⟩ := List.mem_iff_getElem?.1 he
        have hi2 := (List.getElem?_eq_some_iff.1 hi).1
        exact (HEL.out i _ e (List.getElem?_eq_getElem (by rw [HXL.out]; exact hi2)) hi).len
      have hlb := listB_len hl1000 (by rw [← HXL.out]; omega)
      have HTG := Lib.hid (fun W (hb : Below wr.heap.size wr W) => r31Tagged_any ⟨#[98, 101, 97, 99, 111, 110]⟩ (by decide) _ _ _ _ (V4.list AX xs.length cx) rfl 2 (listB (textsOf l r)) W
        (renc_list W AX xs (textsOf l r) cx 1 HXL.out (hEX.later hb) hcx hcx2 (by omega) (by omega) fun i x e hx he => ((HEL.out i x e hx he).below hb).renc) (by decide) (by omega))
      rw [← hq] at HTG ⊢
      have bz := BZ.out.below HBR.out hz1
      obtain ⟨V, hV⟩ : ∃ V, V = valueOf l r := ⟨_, rfl⟩
      have hVl : V.length = 32 := by rw [hV]; exact tagged_length _ _
      have HV2 := Lib.hid hV
      obtain ⟨ml, hml⟩ : ∃ ml, ml = (missingOf l r).length := ⟨_, rfl⟩
      rw [← hml] at hcm ⊢
      have HML := Lib.hid hml
      clear hlb hl1000 hcx hEX hq hV hml HEL HXL
      go_wp2_with fail
      refine (r31List_any AX q cx wr).mono ?_
      rintro e w3 ⟨rfl, hb3⟩
      have bz3 := bz.below hb3 bz.lt
      go_wp2_with fail
      refine (HTG.out w3 hb3).mono ?_
      rw [show tagged (ByteArray.mk #[98, 101, 97, 99, 111, 110]).data.toList (listB (textsOf l r)) = V from HV2.out.symm]
      rintro e w4 ⟨rfl, hb4⟩
      have bz4 := bz3.below hb4 bz3.lt
      have hb34 := hb3.trans (hb4.mono hb3.size)
      have hB4 := HBW.out.trans (hb34.mono HBW.out.size)
      have HI4 := Lib.hid (IOwn.below HI.out hb34)
      clear bz bz3 hb3 hb4 hb34
      go_wp2_with (refine store_dig rfl _ _ rfl bz4 V hVl rfl rfl rfl ?_; intro w8 hD8 hO8 hz8)
      refine bodyPost_ret (results_row_tmp2 rfl _ _ w.heap.size 23 _ (0, 0) _ (.slice AM ml cm) (.int .i64 0) rfl rfl rfl hD8 Tryd.underlying23 rfl (dig_info _ hVl)) rfl ?_
      have hI8 : IOwn w8 w1.heap.size (.slice AM (missingOf l r).length cm) (missingOf l r) := World.ownsRow.kept HI4.out hO8 (by
        cases e : (Value.slice AM (missingOf l r).length cm).ownBlock with
        | none => exact .inl rfl
        | some g => exact .inr fun e2 => by have h3 := (World.ownsRow.lt HI4.out g e).1; cases e2; omega)
      have hr8 := hI8.rd rfl
      rw [HV2.out]
      refine ⟨AM, ml, cm, rfl, HML.out, hcm, hcm2, ?_, hB4.trans (hO8.toBelow hB4.size (Nat.le_refl _))⟩
      rw [HML.out]
      exact hr8
set_option maxRecDepth 100000 in
set_option linter.unusedSimpArgs false in
set_option linter.unusedVariables false in
set_option maxHeartbeats 4000000 in
theorem r31Value_bad (A B : Option Addr) (l r : List Pd) (n c k c2 : Nat) (hn : n = l.length) (hk : k = r.length) (hn2 : n ≤ 1000000) (hk2 : k ≤ 1000000) (hil : PdInts l) (hir : PdInts r) (w : World) (hA : PRd w w.heap.size A l) (hB : PRd w w.heap.size B r)
    (hf : ¬ (inForm l ∧ inForm r)) : Calls Tryd.prog 52 #[.slice A n c, .slice B k c2] w (Ret (.tuple #[.agg (dig zdg), .slice none 0 0, .int .i64 310]) w) := by
  have hfb : (formB l && formB r) = false := by
    cases h1 : formB l <;> cases h2 : formB r <;> simp_all [formB_true]
  have HFO := Lib.hid (fun W (hb : Below w.heap.size w W) => r31Formed_any A B l r n c k c2 hn hk hn2 hk2 hil hir W ((hA.below hb).more hb.size) ((hB.below hb).more hb.size))
  rw [hfb] at HFO
  clear hA hB hn hk hil hir hf hfb
  go_enter Tryd.func52, Tryd.ntmps52
  go_wp2_with fail
  refine calls_gen (fun W => Blk W w.heap.size 23 (dig zdg) ∧ Below w.heap.size w W) ⟨Blk.new _ _ _, (Below.refl _ _).alloc (Nat.le_refl _) _⟩ (fun W0 ⟨bz, hb0⟩ => ?_)
  refine (HFO.out W0 hb0).mono ?_
  rintro e w1 ⟨rfl, hb1⟩
  have BZ := bz.below hb1 bz.lt
  have BB := hb0.trans (hb1.mono hb0.size)
  clear bz hb0 hb1 HFO
  go_wp2_with (first
    | (refine wpList_skip (by rfl) ?_)
    | (refine build_dig0 rfl rfl ?_)
    | (refine store_dig rfl _ _ rfl BZ zdg rfl rfl rfl rfl ?_; intro w8 hD8 hO8 hz8))
  refine bodyPost_ret (results_row_tmp2 rfl _ _ w.heap.size 23 _ (0, 0) _ (.slice none 0 0) (.int .i64 310) rfl rfl rfl hD8 Tryd.underlying23 rfl (dig_info _ rfl)) rfl ?_
  exact ⟨rfl, BB.trans (hO8.toBelow BB.size (Nat.le_refl _))⟩
end Go.Proofs.YtibnikokgbfcdaaDoor

/- Walk: beacon.Value. -/
import Derived.Test.YtibnikokgbfcdaaDoorB6
import Derived.Test.YtibnikokgbfcdaaDoorBD
import Derived.Maps.OwnOps
import Derived.BigGuardPart
namespace Go.Proofs.YtibnikokgbfcdaaDoor
open Go Go.RowKit

theorem anyI_all : ∃ i z, Tryd.prog.info? 20 = some i ∧ i.zero = some z ∧ i.size = 1 ∧ i.bytes = 16 ∧ z.cells.size = 1 := by
  refine ⟨_, _, Option.eq_some_of_isSome (by kernel_rfl), Option.eq_some_of_isSome (by kernel_rfl), by kernel_rfl, by kernel_rfl, by kernel_rfl⟩
def vface (x : V4) : Value := (Bt.val x).iface
/-- The row of the call's own that holds these values, as parts of a list. -/
def AOwn (w : World) (base : Nat) (v : Value) (l : List V4) : Prop := w.ownsRow base 20 1 v l.length (l.map vface)
theorem AOwn.nil (w : World) (base : Nat) : AOwn w base (.slice none 0 0) [] := World.ownsRow_nil _ _ _ _
theorem AOwn.below {w w' : World} {base : Nat} {v : Value} {l : List V4} (h : AOwn w base v l) (hb : Below w.heap.size w w') : AOwn w' base v l :=
  World.ownsRow.kept h (row := none) ⟨hb.os, hb.tape, hb.output, hb.size, fun i hi _ => hb.block i hi⟩ (by cases v.ownBlock <;> simp)
theorem AOwn.shape {w : World} {base : Nat} {v : Value} {l : List V4} (h : AOwn w base v l) : ∃ A c, v = .slice A l.length c ∧ l.length ≤ c ∧ c ≤ 9223372036854775807 ∧ Rd w w.heap.size A l.length (fun k => ((l.map Bt.val).getD k (.num 0)).iface) := by
  rcases h.2 with ⟨rfl, h0⟩ | ⟨g, cap, cur, rfl, hbg, hg, hnc, hcm, hcs, htake⟩
  · exact ⟨none, 0, by rw [h0], by omega, by omega, by rw [h0]; exact Rd.zero⟩
  · refine ⟨_, cap, rfl, hnc, by simp only [maxLen] at hcm; omega, fun _ => ⟨g, 0, rfl, (Array.getElem?_eq_some_iff.1 hg).1, fun k hk => ?_⟩⟩
    rw [Nat.zero_add, World.ownsRow.cellAt h k (by omega)]
    simp [List.getD_eq_getElem?_getD, List.getElem?_eq_getElem hk, vface]
section
variable {ops : Array Oper} {rest : List Oper} {o : Oper} {a : Act} {Q : Exit → Act → World → Prop}
theorem src_any {W : World} {g : Nat} {t : TypeId} (y : V4) (h : Blk W g t #[vface y]) : Src Tryd.prog 1 116 (.slice (some ⟨g, 0, none⟩) 1 1) 1 [vface y] W := by
  have hR : Rd W W.heap.size (some ⟨g, 0, none⟩) (1 * 1) (fun _ => vface y) := Rd.of_blk h h.lt fun k hk => by
    rcases k with _ | k <;> first | rfl | omega
  exact src_rd (P := Tryd.prog) W (size := 1) (tx := 116) (n := 1) (c := 1) Tryd.underlying116 hR (by omega) (fun k _ => rfl)
theorem app_any (hgd : o.guard = none) (s x : Operand) (ho : o.op = .call { callee := .builtin .append, args := #[s, x], argTypes := #[116, 116] })
    (base : Nat) {w : World} (v : Value) (l : List V4) (hs : a.eval s = v) (hown : AOwn w base v l) (y : V4) {g : Nat} {t : TypeId} (hg : Blk w g t #[vface y])
    (hx : a.eval x = .slice (some ⟨g, 0, none⟩) 1 1) (h47 : l.length + 1 ≤ 1000000000) (hbase : base ≤ w.heap.size)
    (h : ∀ v' w', AOwn w' base v' (l ++ [y]) → Grew w w' v v' → wpList Tryd.prog ops Q rest (a.put o.dst v') w') : wpList Tryd.prog ops Q (o :: rest) a w := by
  obtain ⟨li, lz, hl1, hl2, hl3, hl4, hl5⟩ := anyI_all
  exact wpList_append_src w hgd s x 116 116 ho base 20 li lz 1 16 Tryd.underlying116 hl1 hl2 hl3 hl4 hl5 v l.length (l.map vface) hs hown _ 1 [vface y] hx (src_any y hg)
    (by simp only [maxLen]; omega) (by omega) hbase fun v' w' h1 h2 => h v' w' (by
      show World.ownsRow w' base 20 1 v' (l ++ [y]).length ((l ++ [y]).map vface)
      rw [List.map_append, List.length_append]; exact h1) h2
end
/-- What beacon.Value returns for pledges and reveals in form. -/
def ValPost (l r : List Pd) (w : World) (e : Ending) (w' : World) : Prop :=
  ∃ M q cm, e = .returned (.tuple #[.agg (dig (valueOf l r)), .slice M q cm, .int .i64 0]) ∧ q = (missingOf l r).length ∧ q ≤ cm ∧ cm ≤ 9223372036854775807 ∧ Rd w' w'.heap.size M q (fun i => .int .i64 ((missingOf l r).getD i 0)) ∧ Below w.heap.size w w'
theorem MapR.made' (w : World) {g : Nat} (h : g = w.heap.size) : MapR (w.alloc (.map #[] 0)) g 0 (fun _ => none) := by subst h; exact MapR.made w
theorem MapR.alloc {w : World} {b n : Nat} {f : Int → Option (List UInt8)} (h : MapR w b n f) (o : Obj) : MapR (w.alloc o) b n f := h.kept (World.grownBy_alloc w o none) (by simp)
theorem calls_gen {P : Program} {f : FuncId} {args : Array Value} {Q : Ending → World → Prop} {W : World} (p : World → Prop) (hp : p W) (h : ∀ W0, p W0 → Calls P f args W0 Q) : Calls P f args W Q := h W hp
def zdg : List UInt8 := List.replicate 32 0
theorem PRd.len {w : World} {B : Nat} {A : Option Addr} {l : List Pd} (h : PRd w B A l) {x : Pd} (hx : x ∈ l) : x.dg.length = 32 := by
  obtain ⟨k, hk, rfl⟩ := mem_getD hx
  obtain ⟨b, off, -, -, hp⟩ := h.at_ hk
  exact hp.1
/-- A part of the value: its list lies apart from the rows that grow. -/
def EL (w : World) (mis op : Value) (x : V4) (e : List UInt8) : Prop := ∃ A c p u, x = V4.list A 2 c ∧ e = commitText p u ∧ p < 24 ∧ u.length = 32 ∧ 2 ≤ c ∧ c ≤ 9223372036854775807 ∧ Elems w w.heap.size A [V4.int p, V4.text ⟨u.toArray⟩] ∧ ∀ b, A = some b → mis.ownBlock ≠ some b.block ∧ op.ownBlock ≠ some b.block
theorem EL.enc {w : World} {mis op : Value} {x : V4} {e : List UInt8} (h : EL w mis op x e) : Enc w x 1 e := by
  obtain ⟨A, c, p, u, rfl, rfl, hp, hu, h1, h2, h3, -⟩ := h
  refine enc_list w A [V4.int p, V4.text ⟨u.toArray⟩] [intB p, textB u] c 0 rfl h3 h1 h2 (by simp) (by omega) fun i x e hx he => ?_
  rcases i with _ | _ | i
  · obtain rfl := Option.some.inj hx
    obtain rfl := Option.some.inj he
    exact enc_int w p (by omega)
  · obtain rfl := Option.some.inj hx
    obtain rfl := Option.some.inj he
    exact enc_text w ⟨u.toArray⟩
  · cases hx
theorem EL.one {w : World} {mis op : Value} {x : V4} {e : List UInt8} (h : EL w mis op x e) : x.one := by
  obtain ⟨A, c, p, u, rfl, -⟩ := h
  exact ⟨rfl, rfl, rfl⟩
theorem EL.len {w : World} {mis op : Value} {x : V4} {e : List UInt8} (h : EL w mis op x e) : e.length ≤ 1000 := by
  obtain ⟨A, c, p, u, -, rfl, hp, hu, -⟩ := h
  exact commitText_len p u (by omega) hu
theorem Elems.grown {w w' : World} {A : Option Addr} {l : List V4} {row : Option Nat} (h : Elems w w.heap.size A l) (hg : w.grownBy w' row) (hA : ∀ b, A = some b → some b.block ≠ row) : Elems w' w'.heap.size A l := fun hn => by
  obtain ⟨b, off, rfl, hB, hc⟩ := h hn
  have hk : ∀ q, w'.cell? ⟨b, q, none⟩ = w.cell? ⟨b, q, none⟩ := fun q => World.cell?_of_block (a := ⟨b, q, none⟩) (hg.block b hB (hA _ rfl))
  refine ⟨b, off, rfl, Nat.lt_of_lt_of_le hB hg.size, fun i x hx => ?_⟩
  obtain ⟨h0, h1, h2, h3⟩ := hc i x hx
  exact ⟨(hk _).trans h0, (hk _).trans h1, (hk _).trans h2, (hk _).trans h3⟩
theorem EL.step {w w' : World} {mis op mis' op' : Value} {x : V4} {e : List UInt8} {row : Option Nat} (h : EL w mis op x e) (hg : w.grownBy w' row) (hr : ∀ g, row = some g → mis.ownBlock = some g ∨ op.ownBlock = some g)
    (hm : ∀ g, mis'.ownBlock = some g → mis.ownBlock = some g ∨ w.heap.size ≤ g) (ho : ∀ g, op'.ownBlock = some g → op.ownBlock = some g ∨ w.heap.size ≤ g) : EL w' mis' op' x e := by
  obtain ⟨A, c, p, u, rfl, rfl, hp, hu, h1, h2, h3, h4⟩ := h
  have hlt : ∀ b, A = some b → b.block < w.heap.size := fun b e => by
    obtain ⟨b', off, e2, hB, -⟩ := h3 (by simp)
    rw [e] at e2
    cases e2
    exact hB
  refine ⟨A, c, p, u, rfl, rfl, hp, hu, h1, h2, h3.grown hg fun b e e2 => ?_, fun b e => ⟨fun e2 => ?_, fun e2 => ?_⟩⟩
  · rcases hr _ e2.symm with h | h
    · exact (h4 b e).1 h
    · exact (h4 b e).2 h
  · rcases hm _ e2 with h | h
    · exact (h4 b e).1 h
    · have := hlt b e; omega
  · rcases ho _ e2 with h | h
    · exact (h4 b e).2 h
    · have := hlt b e; omega
theorem EL.below {w w' : World} {mis op : Value} {x : V4} {e : List UInt8} (h : EL w mis op x e) (hb : Below w.heap.size w w') : EL w' mis op x e :=
  h.step (row := none) ⟨hb.os, hb.tape, hb.output, hb.size, fun i hi _ => hb.block i hi⟩ (fun g e => by cases e) (fun g h => .inl h) (fun g h => .inl h)
theorem own_apart {a b : Value} (h : ∀ g, a.ownBlock = some g → b.ownBlock ≠ some g) : b.ownBlock = none ∨ b.ownBlock ≠ a.ownBlock := by
  cases e : b.ownBlock with
  | none => exact .inl rfl
  | some g => exact .inr fun e2 => h g e2.symm e
theorem own_apart' {a b : Value} (h : ∀ g, a.ownBlock = some g → b.ownBlock ≠ some g) : a.ownBlock = none ∨ a.ownBlock ≠ b.ownBlock := by
  cases e : a.ownBlock with
  | none => exact .inl rfl
  | some g => exact .inr fun e2 => h g e e2.symm
theorem Grew.own {w w' : World} {v v' : Value} (h : Grew w w' v v') : ∀ g, v'.ownBlock = some g → v.ownBlock = some g ∨ w.heap.size ≤ g := fun g e => by
  rcases h.2 with h2 | ⟨k, h2, h3⟩
  · exact .inl (by rw [← h2]; exact e)
  · rw [h2] at e
    cases e
    exact .inr h3
theorem flatten_len {es : List (List UInt8)} (h : ∀ e ∈ es, e.length ≤ 1000) : es.flatten.length ≤ es.length * 1000 := by
  induction es with
  | nil => simp
  | cons e es ih =>
    have h1 := ih (fun x hx => h x (List.mem_cons_of_mem _ hx))
    have h2 := h e (List.mem_cons_self ..)
    simp only [List.flatten_cons, List.length_append, List.length_cons]
    omega
theorem listB_len {es : List (List UInt8)} (h : ∀ e ∈ es, e.length ≤ 1000) (hn : es.length ≤ 100) : (listB es).length ≤ 1000000 := by
  have h1 := flatten_len h
  have h2 := numB_len10 es.length (by omega)
  simp only [listB, List.length_cons, List.length_append]
  omega
/-- What the loop of beacon.Value has laid after j pledges. -/
def VRel (w : World) (l r : List Pd) (n : Nat) (mis op i : Value) (wr : World) : Prop :=
  ∃ (j : Nat) (xs : List V4), j ≤ n ∧ i = .int .i64 j ∧ IOwn wr w.heap.size mis (missingOf (l.take j) r) ∧ AOwn wr w.heap.size op xs ∧ xs.length = (textsOf (l.take j) r).length ∧ xs.length ≤ j ∧
    (∀ (i : Nat) x e, xs[i]? = some x → (textsOf (l.take j) r)[i]? = some e → EL wr mis op x e) ∧ (∀ g, mis.ownBlock = some g → op.ownBlock ≠ some g) ∧ Below w.heap.size w wr
set_option maxRecDepth 100000 in
set_option linter.unusedSimpArgs false in
set_option linter.unusedVariables false in
set_option maxHeartbeats 4000000 in
theorem bValue_good (A B : Option Addr) (l r : List Pd) (n c k c2 : Nat) (hn : n = l.length) (hk : k = r.length) (hk2 : k ≤ 9223372036854775807) (hil : PdInts l) (hir : PdInts r) (w : World) (hL : Laid w) (hA : PRd w w.heap.size A l) (hB : PRd w w.heap.size B r)
    (hf : inForm l) (hg : inForm r) : Calls Tryd.prog 51 #[.slice A n c, .slice B k c2] w (ValPost l r w) := by
  have hn24 := hf.length
  rw [← hn] at hn24
  have HL := Lib.hid hL
  have HA := Lib.hid hA
  have HB := Lib.hid hB
  have HN := Lib.hid hn
  have HK := Lib.hid hk
  have HF := Lib.hid hf
  have HG := Lib.hid hg
  have HIL := Lib.hid hil
  have HIR := Lib.hid hir
  clear hL hA hB hn hk hf hg hil hir
  go_enter Tryd.func51, Tryd.ntmps51
  have hmm := fun W => run_makeMap (P := Tryd.prog) 114 W
  go_wp2_with fail
  refine calls_gen (fun W0 => Blk W0 w.heap.size 58 #[.slice A n c] ∧ Blk W0 (w.heap.size + 1) 59 #[.slice B k c2] ∧ Blk W0 (w.heap.size + 2) 23 (dig zdg) ∧ MapR W0 (w.heap.size + 3) 0 (fun _ => none) ∧ Blk W0 (w.heap.size + 4) 114 #[.map (some (w.heap.size + 3))] ∧ Below w.heap.size w W0 ∧ W0.heap.size = w.heap.size + 5)
    ⟨((((Blk.new w _ _).alloc _).alloc _).alloc _).alloc _, (((Blk.new' _ _ _ (by simp)).alloc _).alloc _).alloc _, ((Blk.new' _ _ _ (by simp)).alloc _).alloc _, (MapR.made' _ (by simp)).alloc _, Blk.new' _ _ _ (by simp), (((((Below.refl _ w).alloc (Nat.le_refl _) _).alloc (by simp) _).alloc (by simp; omega) _).alloc (by simp; omega) _).alloc (by simp; omega) _, by simp⟩ (fun W0 ⟨c0, c1, c2', c3, c4, hb0, hz⟩ => ?_)
  refine (rise_pledges A l n c HN.out (by omega) w.heap.size 58 W0 c0 ((HA.out.below hb0).more hb0.size)).mono ?_
  rintro e w1 ⟨rfl, hb1⟩
  rw [formB_true.2 HF.out]
  have d0 := c0.below hb1 c0.lt
  have d1 := c1.below hb1 c1.lt
  have d2 := c2'.below hb1 c2'.lt
  have d3 := c3.below hb1 c3.lt
  have d4 := c4.below hb1 c4.lt
  have hB1 := hb0.trans (hb1.mono hb0.size)
  have hz1 := hb1.size
  clear c0 c1 c2' c3 c4 hb0 hb1
  go_wp2_with fail
  refine (rise_reveals B r HIR.out k c2 HK.out (w.heap.size + 1) (w.heap.size + 4) (w.heap.size + 3) 59 114 w1 (by omega) (by omega) d1 d4 (fun h p e => by
    obtain ⟨b, off, e2, hb, -⟩ := HB.out h
    rw [e] at e2
    cases e2
    show b ≠ w.heap.size + 3
    omega) ((HB.out.below hB1).more hB1.size) d3).mono ?_
  rintro e w2 ⟨rfl, hg2, hM2⟩
  rw [formB_true.2 HG.out]
  have hM := hM2 HG.out
  have ne3 : ∀ g, g ≠ w.heap.size + 3 → some g ≠ some (w.heap.size + 3) := fun g h e => h (Option.some.inj e)
  have e0 := d0.grown hg2 (ne3 _ (by omega))
  have e1 := d1.grown hg2 (ne3 _ (by omega))
  have e2 := d2.grown hg2 (ne3 _ (by omega))
  have e4 := d4.grown hg2 (ne3 _ (by omega))
  have hB2 : Below w.heap.size w w2 := ⟨hg2.os.trans hB1.os, hg2.tape.trans hB1.tape, hg2.output.trans hB1.output, Nat.le_trans hB1.size hg2.size, fun i hi => (hg2.block i (Nat.lt_of_lt_of_le hi hB1.size) (ne3 _ (by omega))).trans (hB1.block i hi)⟩
  have hz2 : w.heap.size + 5 ≤ w2.heap.size := by have := hg2.size; omega
  clear d0 d1 d2 d3 d4 hB1 hz1 hz hg2 hM2
  have t0 : w2.cell? ⟨w.heap.size, 0, none⟩ = some (.slice A n c) := e0.cell 0
  have HM := Lib.hid hM
  have HE2 := Lib.hid e2
  have HE4 := Lib.hid e4
  have HB2 := Lib.hid hB2
  have HZ2 := Lib.hid hz2
  clear e0 e1 e2 e4 hM hB2 hmm ne3
  go_wp2_with fail
  go_loopw [5, 10, 29] (VRel w2 l r n) (fun _ _ i _ => n - (intOf i).toNat)
  case atStart => exact ⟨0, [], by omega, rfl, by rw [List.take_zero]; exact IOwn.nil _ _, AOwn.nil _ _, by rw [List.take_zero]; rfl, Nat.le_refl _, fun i x e h => by simp at h, fun g h => by simp [Value.ownBlock] at h, Below.refl _ _⟩
  case round =>
    clear t0
    obtain ⟨j, xs, hj, rfl, hI, hAo, hxl, hxj, hxe, hne, hB⟩ := hrel
    have hBw := HB2.out.trans (hB.mono (by omega))
    have hsz := hB.size
    by_cases hlt : j < n
    · obtain ⟨b, off, rfl, hbl, hx⟩ := (HA.out.below hBw).at_ (k := j) (by rw [← HN.out]; exact hlt)
      obtain ⟨x, hxq⟩ : ∃ x, x = l.getD j pd0 := ⟨_, rfl⟩
      have hms : missingOf (l.take (j + 1)) r = missingOf (l.take j) r ++ if (openedBy r x).isNone then [x.party] else [] := by rw [hxq]; exact missingOf_step (by rw [← HN.out]; exact hlt)
      have hts : textsOf (l.take (j + 1)) r = textsOf (l.take j) r ++ ((openedBy r x).map (commitText x.party.toNat)).toList := by rw [hxq]; exact textsOf_step (by rw [← HN.out]; exact hlt)
      have hxr : 0 ≤ x.party ∧ x.party < 24 := by rw [hxq]; exact ⟨(HF.out j (by rw [← HN.out]; exact hlt)).1, (HF.out j (by rw [← HN.out]; exact hlt)).2.1⟩
      rw [← hxq] at hx
      clear hxq
      obtain ⟨px, cx⟩ := x
      simp only at hms hts hxr
      obtain ⟨p, rfl⟩ : ∃ p : Nat, px = p := ⟨px.toNat, by omega⟩
      have hp24 : p < 24 := by omega
      obtain ⟨u, hu⟩ : ∃ u, u = (findR r (p : Int)).getD (List.replicate 32 0) := ⟨_, rfl⟩
      obtain ⟨ok, hok⟩ : ∃ ok, ok = (findR r (p : Int)).isSome := ⟨_, rfl⟩
      have HMS := Lib.hid hms
      have HTS := Lib.hid hts
      have HX := Lib.hid hx
      have HU := Lib.hid hu
      have HOK := Lib.hid hok
      have HXE := Lib.hid hxe
      have HNE := Lib.hid hne
      have HXL := Lib.hid hxl
      have hcl : cx.length = 32 := hx.1
      have hul : u.length = 32 := by
        rw [HU.out]
        cases hfr : findR r (p : Int) with
        | none => rfl
        | some v => exact PRd.len HB.out ((findR_some HG.out).1 hfr)
      clear hms hts hx hu hok hxe hne hxl hxr
      go_upto_region 10 with (first
        | (refine load_pd pledgeType pledgeInfo rfl _ rfl b (off + j * 33) ⟨p, cx⟩ HX.out rfl ?_)
        | (refine store_pd pledgeInfo rfl _ _ rfl (Blk.new' wr 61 _ rfl) ⟨p, cx⟩ hcl rfl rfl rfl ?_; intro W2 hX2 hO2 hz2
           have hB2r : Below wr.heap.size wr W2 := ((Below.refl _ wr).alloc (Nat.le_refl _) _).trans (hO2.toBelow (by simp) (Nat.le_refl _))))
      have hBW2 := hB.trans (hB2r.mono hsz)
      have k0 : W2.cell? ⟨wr.heap.size, 0, none⟩ = some (.int .i64 (p : Int)) := pd_party hX2
      have k4 : W2.cell? ⟨w.heap.size + 4, 0, none⟩ = some (.map (some (w.heap.size + 3))) := (HE4.out.below hBW2 (by omega)).cell 0
      have hM2 : MapR W2 (w.heap.size + 3) k (findR r) := HM.out.below hBW2 (by omega)
      have hI2 := IOwn.below hI hB2r
      have hA2 := AOwn.below hAo hB2r
      have HM2 := Lib.hid hM2
      have HI2 := Lib.hid hI2
      have HA2 := Lib.hid hA2
      have HS2 := Lib.hid hB2r.size
      have HBW2 := Lib.hid hBW2
      have HR2 := Lib.hid hB2r
      have HX2 := Lib.hid hX2
      clear hO2 hz2 hI hAo hB hBw hX2 hBW2 hM2 hI2 hA2 hB2r
      go_upto_region 11 with (first
        | (at_lookup; refine map_look rfl _ _ rfl HM2.out rfl (p : Int) (by omega) (by omega) rfl u ok HU.out HOK.out ?_)
        | (refine store_dig_new rfl _ _ rfl _ _ _ u hul rfl rfl rfl ?_))
      obtain ⟨W3, hW3⟩ : ∃ W3, W3 = W2.alloc (.cells (dig u) 23) := ⟨_, rfl⟩
      have hb3 : Below W2.heap.size W2 W3 := by rw [hW3]; exact (Below.refl _ _).alloc (Nat.le_refl _) _
      have HXD := Lib.hid (show Blk W3 W2.heap.size 23 (dig u) by rw [hW3]; exact Blk.new _ _ _)
      rw [← hW3]
      have HX3 := Lib.hid (HX2.out.below hb3 HX2.out.lt)
      have HI3 := Lib.hid (IOwn.below HI2.out hb3)
      have HA3 := Lib.hid (AOwn.below HA2.out hb3)
      have HEL3 := Lib.hid (fun i x e h1 h2 => ((HXE.out i x e h1 h2).below HR2.out).below hb3)
      have HB3 := Lib.hid (HBW2.out.trans (hb3.mono (Nat.le_trans hsz HS2.out)))
      have HS3 := Lib.hid (Nat.le_trans HS2.out hb3.size)
      have hwr3 : wr.heap.size < W3.heap.size := HX3.out.lt
      clear hb3 hW3 k0 k4
      cases ok with
      | false =>
        have hop : openedBy r ⟨(p : Int), cx⟩ = none := by
          have h1 := HOK.out
          cases hfr : findR r (p : Int) with
          | none => simp [openedBy, hfr]
          | some v => rw [hfr] at h1; cases h1
        have HOP := Lib.hid hop
        clear hop
        go_wp2_with fail
        refine wp_region_quiet_ext (by kernel_rfl) (by kernel_rfl) ?_
        repeat (go_big_quiet_step (fail))
        refine wpQuiet_nil ?_
        rintro WD ⟨⟨_, hbD⟩, rfl⟩
        have k0D : WD.cell? ⟨wr.heap.size, 0, none⟩ = some (.int .i64 (p : Int)) := pd_party (HX3.out.below hbD (by omega))
        have hID := IOwn.below HI3.out hbD
        have hAD := AOwn.below HA3.out hbD
        have hED : ∀ (i : Nat) x e, xs[i]? = some x → (textsOf (l.take j) r)[i]? = some e → EL WD u5 u10 x e := fun i x e h1 h2 => (HEL3.out i x e h1 h2).below hbD
        have hBD := HB3.out.trans (hbD.mono (Nat.le_trans hsz HS3.out))
        have HED := Lib.hid hED
        have HAD := Lib.hid hAD
        have HBD := Lib.hid hBD
        have hzD := hbD.size
        have HO1 := Lib.hid (IOwn.alloc hID (.cells #[.int .i64 (p : Int)] 3))
        have hm24 : (missingOf (l.take j) r).length + 1 ≤ 1000000000000 := by have := missingOf_le (l.take j) r; rw [List.length_take] at this; omega
        have hlI : ∀ g, u5.ownBlock = some g → w2.heap.size ≤ g ∧ g < WD.heap.size := fun g e => World.ownsRow.lt hID g e
        have hlA : ∀ g, u10.ownBlock = some g → w2.heap.size ≤ g ∧ g < WD.heap.size := fun g e => World.ownsRow.lt hAD g e
        have HLI := Lib.hid hlI
        have HLA := Lib.hid hlA
        have hbsD : w2.heap.size ≤ (WD.alloc (.cells #[.int .i64 (p : Int)] 3)).heap.size := by simp only [World.size_alloc]; have := HS3.out; omega
        clear hED hAD hBD hID hbD hlI hlA
        go_wp2_with (at_builtin; refine app_int rfl _ _ rfl w2.heap.size u5 _ rfl HO1.out (p : Int) (Blk.new _ _ _) rfl hm24 hbsD ?_; intro v7 w7 hown7 hg7)
        go_roundw
        case rel =>
          have hg0 := hg7.alloc_first
          refine ⟨j + 1, xs, by omega, by go_num, ?_, World.ownsRow.kept (World.ownsRow.kept HAD.out (World.grownBy_alloc WD (.cells #[.int .i64 (p : Int)] 3) none) (by cases u10.ownBlock <;> simp)) hg7.1 (own_apart HNE.out), ?_, by omega, fun i x e h1 h2 => ?_, fun g e e2 => ?_, HBD.out.trans (hg0.below (by have := HS3.out; omega) fun g e => (HLI.out g e).1)⟩
          · rw [HMS.out, HOP.out]
            exact hown7
          · rw [HTS.out, HOP.out, HXL.out]
            simp
          · rw [HTS.out, HOP.out] at h2
            simp only [Option.map_none, Option.toList_none, List.append_nil] at h2
            exact (HED.out i x e h1 h2).step hg0.1 (fun g e => .inl e) hg0.own (fun g e => .inl e)
          · rcases hg0.own g e with h | h
            · exact HNE.out g h e2
            · have := (HLA.out g e2).2; omega
        case measure => simp [intOf]; omega
      | true =>
        have K03 := Lib.hid (show W3.cell? ⟨wr.heap.size, 0, none⟩ = some (.int .i64 (p : Int)) from pd_party HX3.out)
        have HRG := Lib.hid (pd_dg HX3.out hcl)
        have HFR := Lib.hid (show findR r (p : Int) = some u by
          have h1 := HOK.out
          have h2 := HU.out
          cases hfr : findR r (p : Int) with
          | none => rw [hfr] at h1; cases h1
          | some v => rw [hfr] at h2; rw [h2]; rfl)
        obtain ⟨C, hC⟩ : ∃ C, C = commitOf p u := ⟨_, rfl⟩
        have hCl : C.length = 32 := by rw [hC]; exact commitOf_length _ _
        have hT := fun W hW g (h : Blk W g 20 #[.iface 3 (.int .i64 p), .iface 23 (.agg (dig u))]) => btag_pair ⟨#[112, 108, 101, 100, 103, 101]⟩ (by decide) p u (by omega) hul W hW g _ h
        rw [show tagged (ByteArray.mk #[112, 108, 101, 100, 103, 101]).data.toList (commitText p u) = C from hC.symm] at hT
        have HT := Lib.hid hT
        have HC := Lib.hid hC
        clear hT hC
        go_wp2_with fail
        refine wp_region_held_drew (S := fun W' => Below W3.heap.size W3 W') (by kernel_rfl) (Below.refl _ _).drew (fun hS => ?_)
        refine wpAnyH_take (i := 0) (v := .bool true) rfl (by kernel_rfl) (by kernel_rfl) (by kernel_rfl) (fun _ _ _ h => h) (Or.inl ⟨by rfl, fun W' hS' => by go_simp⟩) hS ?_
        simp only [Act.put, List.getElem_toArray, List.getElem_cons_zero, List.getElem_cons_succ, List.setIfInBounds_toArray, List.set_cons_zero, List.set_cons_succ]
        refine wpAnyH_take (i := 1) (v := .bool false) rfl (by kernel_rfl) (by kernel_rfl) (by kernel_rfl) (fun _ _ _ h => h) (Or.inl ⟨by rfl, fun W' hS' => by go_simp⟩) hS ?_
        simp only [Act.put, List.getElem_toArray, List.getElem_cons_zero, List.getElem_cons_succ, List.setIfInBounds_toArray, List.set_cons_zero, List.set_cons_succ]
        refine wpAnyH_take (i := 2) (v := .bool false) rfl (by kernel_rfl) (by kernel_rfl) (by kernel_rfl) (fun _ _ _ h => h) (Or.inl ⟨by rfl, fun W' hS' => by go_simp⟩) hS ?_
        simp only [Act.put, List.getElem_toArray, List.getElem_cons_zero, List.getElem_cons_succ, List.setIfInBounds_toArray, List.set_cons_zero, List.set_cons_succ]
        refine wpAnyH_take (i := 3) (v := .pointer (some ⟨wr.heap.size, 0, none⟩)) rfl (by kernel_rfl) (by kernel_rfl) (by kernel_rfl) (fun _ _ _ h => h) (Or.inl ⟨by rfl, fun W' hS' => by go_simp⟩) hS ?_
        simp only [Act.put, List.getElem_toArray, List.getElem_cons_zero, List.getElem_cons_succ, List.setIfInBounds_toArray, List.set_cons_zero, List.set_cons_succ]
        refine wpAnyH_take (i := 4) (v := .int .i64 (p : Int)) rfl (by kernel_rfl) (by kernel_rfl) (by kernel_rfl) (fun _ _ _ h => h) (Or.inl ⟨by rfl, fun W' hS' => by have := (hS'.cell (p := ⟨wr.heap.size, 0, none⟩) hwr3).trans K03.out; go_simp⟩) hS ?_
        simp only [Act.put, List.getElem_toArray, List.getElem_cons_zero, List.getElem_cons_succ, List.setIfInBounds_toArray, List.set_cons_zero, List.set_cons_succ]
        refine wpAnyH_take (i := 5) (v := .iface 3 (.int .i64 (p : Int))) rfl (by kernel_rfl) (by kernel_rfl) (by kernel_rfl) (fun _ _ _ h => h) (Or.inl ⟨by rfl, fun W' hS' => by go_simp⟩) hS ?_
        simp only [Act.put, List.getElem_toArray, List.getElem_cons_zero, List.getElem_cons_succ, List.setIfInBounds_toArray, List.set_cons_zero, List.set_cons_succ]
        refine wpAnyH_take (i := 6) (v := .agg (dig u)) rfl (by kernel_rfl) (by kernel_rfl) (by kernel_rfl) (fun _ _ _ h => h) (yields_dig (by rfl) _ rfl _ rfl u hul (fun W' hS' => HXD.out.below hS' HXD.out.lt)) hS ?_
        simp only [Act.put, List.getElem_toArray, List.getElem_cons_zero, List.getElem_cons_succ, List.setIfInBounds_toArray, List.set_cons_zero, List.set_cons_succ]
        refine wpAnyH_take (i := 7) (v := .iface 23 (.agg (dig u))) rfl (by kernel_rfl) (by kernel_rfl) (by kernel_rfl) (fun _ _ _ h => h) (Or.inl ⟨by rfl, fun W' hS' => by go_simp⟩) hS ?_
        simp only [Act.put, List.getElem_toArray, List.getElem_cons_zero, List.getElem_cons_succ, List.setIfInBounds_toArray, List.set_cons_zero, List.set_cons_succ]
        refine wpAnyH_take (i := 10) (v := .pointer (some ⟨wr.heap.size, 1, none⟩)) rfl (by kernel_rfl) (by kernel_rfl) (by kernel_rfl) (fun _ _ _ h => h) (Or.inl ⟨by rfl, fun W' hS' => by go_simp⟩) hS ?_
        simp only [Act.put, List.getElem_toArray, List.getElem_cons_zero, List.getElem_cons_succ, List.setIfInBounds_toArray, List.set_cons_zero, List.set_cons_succ]
        refine wpAnyH_take (i := 11) (v := .agg (dig cx)) rfl (by kernel_rfl) (by kernel_rfl) (by kernel_rfl) (fun _ _ _ h => h) (yields_mid_dig (by rfl) _ rfl _ _ rfl cx hcl (fun W' hS' => rangeAt_below HRG.out hS' hwr3)) hS ?_
        simp only [Act.put, List.getElem_toArray, List.getElem_cons_zero, List.getElem_cons_succ, List.setIfInBounds_toArray, List.set_cons_zero, List.set_cons_succ]
        refine wpAnyH_ready (rs := [8]) (by kernel_rfl) (by simp) ?_
        refine AllReadyH.cons rfl (fun Kq hKq => ?_) AllReadyH.nil
        go_simp
        have hS6 : Below W3.heap.size W3 (W3.alloc (.cells #[.iface 3 (.int .i64 (p : Int)), .iface 23 (.agg (dig u))] 20)).drew := ((Below.refl _ W3).alloc (Nat.le_refl _) _).drew
        have hG6 : Blk (W3.alloc (.cells #[.iface 3 (.int .i64 (p : Int)), .iface 23 (.agg (dig u))] 20)).drew W3.heap.size 20 #[.iface 3 (.int .i64 (p : Int)), .iface 23 (.agg (dig u))] := (Blk.new W3 _ _).drew
        refine hKq.out _ _ hS6 (fun _ => ?_)
        clear hKq Kq hS
        generalize (W3.alloc (.cells #[.iface 3 (.int .i64 (p : Int)), .iface 23 (.agg (dig u))] 20)).drew = W6 at hG6 hS6 ⊢
        refine wpAnyH_ready (rs := [9]) (by kernel_rfl) (by simp) ?_
        refine AllReadyH.cons rfl (fun Kq hKq => ?_) AllReadyH.nil
        go_simp
        refine (HT.out _ (HL.out.below (HB2.out.trans ((HB3.out.trans (hS6.mono (Nat.le_trans hsz HS3.out))).mono (by have := HZ2.out; omega)))) _ hG6).mono ?_
        rintro e WD ⟨rfl, hb5⟩
        have hbD := hS6.trans (hb5.mono hS6.size)
        refine hKq.out _ _ hbD (fun _ => ?_)
        clear hKq Kq hS6 hb5 hG6
        refine wpAnyH_take (i := 12) (v := .bool (!decide (C = cx))) rfl (by kernel_rfl) (by kernel_rfl) (by kernel_rfl) (fun _ _ _ h => h) (yields_neq_dig (by rfl) _ _ _ rfl C cx hCl hcl rfl rfl) hbD ?_
        simp only [Act.put, List.getElem_toArray, List.getElem_cons_zero, List.getElem_cons_succ, List.setIfInBounds_toArray, List.set_cons_zero, List.set_cons_succ]
        refine wpAnyH_take (i := 13) (v := .bool (!decide (C = cx))) rfl (by kernel_rfl) (by kernel_rfl) (by kernel_rfl) (fun _ _ _ h => h) (Or.inl ⟨by rfl, fun W' hS' => by go_simp⟩) hbD ?_
        simp only [Act.put, List.getElem_toArray, List.getElem_cons_zero, List.getElem_cons_succ, List.setIfInBounds_toArray, List.set_cons_zero, List.set_cons_succ]
        refine wpAnyH_done (by kernel_rfl) ?_ _
        by_cases tC : C = cx
        · have HOP := Lib.hid (show openedBy r ⟨(p : Int), cx⟩ = some u by
            rw [openedBy, HFR.out, Option.filter_some, if_pos]
            simp only [Int.toNat_natCast, decide_eq_true_eq]
            rw [← HC.out]
            exact tC)
          rw [decide_eq_true tC]
          have k0D : WD.cell? ⟨wr.heap.size, 0, none⟩ = some (.int .i64 (p : Int)) := pd_party (HX3.out.below hbD (by omega))
          have HXDD := Lib.hid (HXD.out.below hbD HXD.out.lt)
          have hID := IOwn.below HI3.out hbD
          have hAD := AOwn.below HA3.out hbD
          have hED : ∀ (i : Nat) x e, xs[i]? = some x → (textsOf (l.take j) r)[i]? = some e → EL WD u5 u10 x e := fun i x e h1 h2 => (HEL3.out i x e h1 h2).below hbD
          have hBD := HB3.out.trans (hbD.mono (Nat.le_trans hsz HS3.out))
          have HED := Lib.hid hED
          have HBD := Lib.hid hBD
          have HID := Lib.hid hID
          have HAD := Lib.hid hAD
          have hzD := hbD.size
          have hlI : ∀ g, u5.ownBlock = some g → w2.heap.size ≤ g ∧ g < WD.heap.size := fun g e => World.ownsRow.lt hID g e
          have hlA : ∀ g, u10.ownBlock = some g → w2.heap.size ≤ g ∧ g < WD.heap.size := fun g e => World.ownsRow.lt hAD g e
          have HLI := Lib.hid hlI
          have HLA := Lib.hid hlA
          have hw2D : w2.heap.size ≤ WD.heap.size := by have := HS3.out; omega
          clear hED hAD hBD hID hbD hlI hlA
          go_wp2_with (refine load_dig rfl _ rfl u hul HXDD.out rfl ?_)
          refine (blist_any [.num p, .dig u] _ 2 2 rfl _ (pair_rd (Blk.new _ _ _)) (by omega) (pair_ok p u (by omega) hul)).mono ?_
          rintro e W6 ⟨A6, c6, rfl, hc6, hc6', hE6, hb6, hA6⟩
          have hb6' : Below WD.heap.size WD W6 := ((Below.refl _ WD).alloc (Nat.le_refl _) _).trans (hb6.mono (by simp only [World.size_alloc]; omega))
          have hA6' : ∀ b, A6 = some b → WD.heap.size ≤ b.block := fun b e => by have := hA6 b e; simp only [World.size_alloc] at this; omega
          have hE6' : Elems W6 W6.heap.size A6 [V4.int p, V4.text ⟨u.toArray⟩] := hE6
          have HE6 := Lib.hid hE6'
          have HA6 := Lib.hid hA6'
          have HB6 := Lib.hid hb6'
          have hz6 := hb6'.size
          have hA7 := AOwn.below HAD.out hb6'
          have HO1 := Lib.hid (show AOwn (W6.alloc (.cells #[.iface 93 (.agg #[.int .i64 3, .int .i64 0, .string ⟨#[]⟩, .slice A6 2 c6])] 20)) w2.heap.size u10 xs from AOwn.below hA7 ((Below.refl _ _).alloc (Nat.le_refl _) _))
          have HI6 := Lib.hid (IOwn.below HID.out hb6')
          have hbs6 : w2.heap.size ≤ (W6.alloc (.cells #[.iface 93 (.agg #[.int .i64 3, .int .i64 0, .string ⟨#[]⟩, .slice A6 2 c6])] 20)).heap.size := by simp only [World.size_alloc]; omega
          have hx9 : xs.length + 1 ≤ 1000000000 := by omega
          clear hb6 hA6 hE6 hb6' hA6' hE6' hA7
          go_wp2_with (at_builtin; refine app_any rfl _ _ rfl w2.heap.size u10 xs rfl HO1.out (V4.list A6 2 c6) (Blk.new _ _ _) rfl hx9 hbs6 ?_; intro v7 w7 hown7 hg7)
          go_roundw
          case rel =>
            have hg0 := hg7.alloc_first
            have hEl6 : ∀ b, A6 = some b → b.block < W6.heap.size := fun b e => by
              obtain ⟨b', off', e2, hB', -⟩ := HE6.out (by simp)
              rw [e] at e2
              cases e2
              exact hB'
            refine ⟨j + 1, xs ++ [V4.list A6 2 c6], by omega, by go_num, ?_, hown7, ?_, by rw [List.length_append, List.length_singleton]; omega, fun i x e h1 h2 => ?_, fun g e e2 => ?_, (HBD.out.trans (HB6.out.mono hw2D)).trans (hg0.below (by omega) fun g e => (HLA.out g e).1)⟩
            · rw [HMS.out, HOP.out]
              simp only [Option.isNone_some, Bool.false_eq_true, if_false, List.append_nil]
              exact World.ownsRow.kept HI6.out hg0.1 (own_apart' HNE.out)
            · rw [HTS.out, HOP.out, List.length_append, List.length_append, HXL.out]
              rfl
            · rw [HTS.out, HOP.out] at h2
              simp only [Option.map_some, Option.toList_some, Int.toNat_natCast] at h2
              rcases Nat.lt_or_ge i xs.length with h | h
              · rw [List.getElem?_append_left h] at h1
                rw [List.getElem?_append_left (by rw [← HXL.out]; exact h)] at h2
                exact ((HED.out i x e h1 h2).below HB6.out).step hg0.1 (fun g e => .inr e) (fun g e => .inl e) hg0.own
              · have hi := (List.getElem?_eq_some_iff.1 h1).1
                rw [List.length_append, List.length_singleton] at hi
                obtain rfl : i = xs.length := by omega
                rw [List.getElem?_append_right (Nat.le_refl _), Nat.sub_self] at h1
                rw [HXL.out, List.getElem?_append_right (Nat.le_refl _), Nat.sub_self] at h2
                obtain rfl := Option.some.inj h1
                obtain rfl := Option.some.inj h2
                refine ⟨A6, c6, p, u, rfl, rfl, hp24, hul, hc6, hc6', HE6.out.grown hg0.1 (fun b e e2 => ?_), fun b e => ⟨fun e2 => ?_, fun e2 => ?_⟩⟩
                · have := HA6.out b e; have := (HLA.out _ e2.symm).2; omega
                · have := HA6.out b e; have := (HLI.out _ e2).2; omega
                · rcases hg0.own _ e2 with h | h
                  · have := HA6.out b e; have := (HLA.out _ h).2; omega
                  · have := hEl6 b e; omega
            · rcases hg0.own g e2 with h | h
              · exact HNE.out g e h
              · have := (HLI.out g e).2; omega
          case measure => simp [intOf]; omega
        · have HOP := Lib.hid (show openedBy r ⟨(p : Int), cx⟩ = none by
            rw [openedBy, HFR.out, Option.filter_some, if_neg]
            simp only [Int.toNat_natCast, decide_eq_true_eq]
            rw [← HC.out]
            exact tC)
          rw [decide_eq_false tC]
          have k0D : WD.cell? ⟨wr.heap.size, 0, none⟩ = some (.int .i64 (p : Int)) := pd_party (HX3.out.below hbD (by omega))
          have hID := IOwn.below HI3.out hbD
          have hAD := AOwn.below HA3.out hbD
          have hED : ∀ (i : Nat) x e, xs[i]? = some x → (textsOf (l.take j) r)[i]? = some e → EL WD u5 u10 x e := fun i x e h1 h2 => (HEL3.out i x e h1 h2).below hbD
          have hBD := HB3.out.trans (hbD.mono (Nat.le_trans hsz HS3.out))
          have HED := Lib.hid hED
          have HAD := Lib.hid hAD
          have HBD := Lib.hid hBD
          have hzD := hbD.size
          have HO1 := Lib.hid (IOwn.alloc hID (.cells #[.int .i64 (p : Int)] 3))
          have hm24 : (missingOf (l.take j) r).length + 1 ≤ 1000000000000 := by have := missingOf_le (l.take j) r; rw [List.length_take] at this; omega
          have hlI : ∀ g, u5.ownBlock = some g → w2.heap.size ≤ g ∧ g < WD.heap.size := fun g e => World.ownsRow.lt hID g e
          have hlA : ∀ g, u10.ownBlock = some g → w2.heap.size ≤ g ∧ g < WD.heap.size := fun g e => World.ownsRow.lt hAD g e
          have HLI := Lib.hid hlI
          have HLA := Lib.hid hlA
          have hbsD : w2.heap.size ≤ (WD.alloc (.cells #[.int .i64 (p : Int)] 3)).heap.size := by simp only [World.size_alloc]; have := HS3.out; omega
          clear hED hAD hBD hID hbD hlI hlA
          go_wp2_with (at_builtin; refine app_int rfl _ _ rfl w2.heap.size u5 _ rfl HO1.out (p : Int) (Blk.new _ _ _) rfl hm24 hbsD ?_; intro v7 w7 hown7 hg7)
          go_roundw
          case rel =>
            have hg0 := hg7.alloc_first
            refine ⟨j + 1, xs, by omega, by go_num, ?_, World.ownsRow.kept (World.ownsRow.kept HAD.out (World.grownBy_alloc WD (.cells #[.int .i64 (p : Int)] 3) none) (by cases u10.ownBlock <;> simp)) hg7.1 (own_apart HNE.out), ?_, by omega, fun i x e h1 h2 => ?_, fun g e e2 => ?_, HBD.out.trans (hg0.below (by have := HS3.out; omega) fun g e => (HLI.out g e).1)⟩
            · rw [HMS.out, HOP.out]
              exact hown7
            · rw [HTS.out, HOP.out, HXL.out]
              simp
            · rw [HTS.out, HOP.out] at h2
              simp only [Option.map_none, Option.toList_none, List.append_nil] at h2
              exact (HED.out i x e h1 h2).step hg0.1 (fun g e => .inl e) hg0.own (fun g e => .inl e)
            · rcases hg0.own g e with h | h
              · exact HNE.out g h e2
              · have := (HLA.out g e2).2; omega
          case measure => simp [intOf]; omega
    · obtain rfl : j = n := by omega
      obtain ⟨AX, cx, rfl, hcx, hcx2, hRX⟩ := AOwn.shape hAo
      rw [List.take_of_length_le (by rw [← HN.out]; exact Nat.le_refl _)] at hI hxl hxe
      have hxen : ∀ (i : Nat) x e, (xs.map Bt.val)[i]? = some x → (textsOf l r)[i]? = some e → Enc wr x.v4 1 e := fun i x e h1 h2 => by
        rw [List.getElem?_map] at h1
        obtain ⟨y, hy, rfl⟩ := Option.map_eq_some_iff.1 h1
        exact (hxe i y e hy h2).enc
      have hone : ∀ x ∈ xs.map Bt.val, x.ok := fun x hx => by
        obtain ⟨y, hy, rfl⟩ := List.mem_map.1 hx
        obtain ⟨i, hi⟩ := List.mem_iff_getElem?.1 hy
        have hi2 := (List.getElem?_eq_some_iff.1 hi).1
        exact (hxe i y _ hi (List.getElem?_eq_getElem (by omega))).one
      have hl1000 : ∀ e ∈ textsOf l r, e.length ≤ 1000 := fun e he => by
        obtain ⟨i, hi⟩ := List.mem_iff_getElem?.1 he
        have hi2 := (List.getElem?_eq_some_iff.1 hi).1
        exact (hxe i _ e (List.getElem?_eq_getElem (by omega)) hi).len
      have hlb := listB_len hl1000 (by omega)
      have hBe := btagged_any ⟨#[98, 101, 97, 99, 111, 110]⟩ (by decide) (xs.map Bt.val) (textsOf l r) 1 AX cx xs.length (by simp) (by rw [List.length_map]; exact hxl) wr (HL.out.below hBw) hRX (by omega) hone (by omega) (by omega) hxen
      rw [show tagged (ByteArray.mk #[98, 101, 97, 99, 111, 110]).data.toList (listB (textsOf l r)) = valueOf l r from rfl] at hBe
      have HBE := Lib.hid hBe
      have HI := Lib.hid hI
      have HBB := Lib.hid hB
      have HBW := Lib.hid hBw
      have hDz := HE2.out.below hB (by omega)
      have HDZ := Lib.hid hDz
      obtain ⟨V, hV⟩ : ∃ V, V = valueOf l r := ⟨_, rfl⟩
      have hVl : V.length = 32 := by rw [hV]; exact tagged_length _ _
      rw [← hV] at HBE
      have HV := Lib.hid hV
      clear hBe hxl hI hB hBw hDz hV hxe hxen hone hl1000 hlb hRX hAo hne
      go_wp2_with fail
      refine HBE.out.mono ?_
      rintro e w7 ⟨rfl, hb7⟩
      have hD7 := HDZ.out.below hb7 HDZ.out.lt
      have hB7 := HBW.out.trans (hb7.mono HBW.out.size)
      have hI7 := IOwn.below HI.out hb7
      have HI7 := Lib.hid hI7
      clear hb7 hI7
      obtain ⟨AM, cm, rfl, hcm, hcm2, -⟩ := HI.out.shape
      go_wp2_with (refine store_dig rfl _ _ rfl hD7 V hVl rfl rfl rfl ?_; intro w8 hD8 hO8 hz8)
      refine bodyPost_ret (results_row_tmp2 rfl _ _ (w.heap.size + 2) 23 _ (0, 0) _ (.slice AM (missingOf l r).length cm) (.int .i64 0) rfl rfl rfl hD8 Tryd.underlying23 rfl (dig_info _ hVl)) rfl ?_
      have hI8 : IOwn w8 w2.heap.size (.slice AM (missingOf l r).length cm) (missingOf l r) := World.ownsRow.kept HI7.out hO8 (by
        cases e : (Value.slice AM (missingOf l r).length cm).ownBlock with
        | none => exact .inl rfl
        | some g => exact .inr fun e2 => by have h3 := (World.ownsRow.lt HI7.out g e).1; cases e2; omega)
      rw [HV.out]
      exact ⟨AM, _, cm, rfl, rfl, hcm, hcm2, hI8.rd rfl, hB7.trans (hO8.toBelow hB7.size (by omega))⟩
end Go.Proofs.YtibnikokgbfcdaaDoor

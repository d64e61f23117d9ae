/- Walk: podiumref08.Add. -/
import Derived.Test.YtibnikokgbfcdaaDoorC9
import Derived.Test.YtibnikokgbfcdaaDoorC11
import Derived.BigGuardPart
namespace Go.Proofs.YtibnikokgbfcdaaDoor
open Go Go.RowKit

theorem list_range_getD (xs : List Value) (n : Nat) (h : xs.length = n) : (List.range n).map (fun k => xs.getD k undef) = xs := by
  apply List.ext_getElem? fun k => ?_
  by_cases hk : k < n
  · rw [List.getElem?_map, List.getElem?_range hk, List.getElem?_eq_getElem (by omega)]
    simp [List.getD_eq_getElem?_getD, List.getElem?_eq_getElem (show k < xs.length by omega)]
  · rw [List.getElem?_eq_none (by simp; omega), List.getElem?_eq_none (by omega)]
/-- Links that came in, as what an append takes. -/
theorem src_links {w : World} {B : Nat} {A : Option Addr} {l : List Lk} {n c : Nat} (hA : LRd w B A l) (hn : n = l.length) : ∃ ps : List (Lk × Value), ps.map Prod.fst = l ∧ (∀ p ∈ ps, Leads w B p) ∧ Src Tryd.prog 35 43 (.slice A n c) n (lcells ps) w := by
  obtain ⟨ps, hps, hld, hcl⟩ := hA.cells
  have hpl : ps.length = n := by rw [hn, ← hps, List.length_map]
  have hlen := lcells_len ps (fun p hp => (hld p hp).1)
  rw [hpl] at hlen
  refine ⟨ps, hps, hld, ?_⟩
  have hR : Rd w B A (n * 35) (fun k => (lcells ps).getD k undef) := fun h0 => by
    obtain ⟨b, off, rfl, hb, -⟩ := hA (by omega)
    refine ⟨b, off, rfl, hb, fun k hk => ?_⟩
    have hk2 : k < (lcells ps).length := by omega
    have := hcl _ rfl k _ (List.getElem?_eq_getElem hk2)
    rw [Addr.add_mid] at this
    rw [this]
    simp [List.getD_eq_getElem?_getD, List.getElem?_eq_getElem hk2]
  have hs := src_rd (P := Tryd.prog) w (size := 35) (tx := 43) (n := n) (c := c) Tryd.underlying43 hR (by decide) (fun k hk => by
    have hk2 : k < (lcells ps).length := by omega
    have e : (lcells ps).getD k undef = (lcells ps)[k] := by simp [List.getD_eq_getElem?_getD, List.getElem?_eq_getElem hk2]
    rw [e]
    have hm : (lcells ps)[k] ∈ lcells ps := List.getElem_mem hk2
    obtain ⟨p, hp, hu⟩ := List.mem_flatMap.1 hm
    exact (hld p hp).one _ hu)
  rw [list_range_getD _ _ hlen] at hs
  exact hs
theorem app_links {ops : Array Oper} {rest : List Oper} {o : Oper} {a : Act} {Q : Exit → Act → World → Prop} (hgd : o.guard = none) (s x : Operand) (ho : o.op = .call { callee := .builtin .append, args := #[s, x], argTypes := #[43, 43] })
    (base : Nat) {w : World} (v : Value) (n : Nat) (xs : List Value) (hs : a.eval s = v) (hown : w.ownsRow base 52 35 v n xs) (xv : Value) (m : Nat) (news : List Value) (hx : a.eval x = xv) (hsrc : Src Tryd.prog 35 43 xv m news w)
    (h47 : n + m ≤ 1000000) (hbase : base ≤ w.heap.size)
    (h : ∀ v' w', w'.ownsRow base 52 35 v' (n + m) (xs ++ news) → Grew w w' v v' → wpList Tryd.prog ops Q rest (a.put o.dst v') w') : wpList Tryd.prog ops Q (o :: rest) a w := by
  obtain ⟨li, lz, hl1, hl2, hl3, hl4, hl5⟩ := linkI_all
  exact wpList_append_src w hgd s x 43 43 ho base 52 li lz 35 72 Tryd.underlying43 hl1 hl2 hl3 hl4 hl5 v n xs hs hown xv m news hx hsrc (by simp only [maxLen]; omega) (by omega) hbase h
theorem own_links_new (w : World) (base : Nat) (hb : base ≤ w.heap.size) : (w.alloc (.cells #[] 52)).ownsRow base 52 35 (.slice (some ⟨w.heap.size, 0, none⟩) 0 0) 0 [] :=
  ⟨rfl, .inr ⟨w.heap.size, 0, _, rfl, hb, heap_alloc_new w _, Nat.le_refl _, by simp only [maxLen]; omega, rfl, rfl⟩⟩
/-- A slice of one link, in the order of the text. -/
theorem bslice_links {ops : Array Oper} {rest : List Oper} {o : Oper} {a : Act} {w : World} {Q : Exit → Act → World → Prop} (hgd : o.guard = none) (p : Operand) (ho : o.op = .buildSlice 43 1 #[(0, p)])
    (x : Lk) (A : Option Addr) (n c : Nat) (hp : x.prev.length = 32) (hx : a.eval p = .agg (x.cells (.slice A n c)).toArray)
    (h : wpList Tryd.prog ops Q rest (a.put o.dst (.slice (some ⟨w.heap.size, 0, none⟩) 1 1)) (w.alloc (.cells (x.cells (.slice A n c)).toArray 52))) : wpList Tryd.prog ops Q (o :: rest) a w :=
  wpList_plain hgd fun _ hK => wp_bslice_link p ho x A n c hp hx (hK _ _ h)
theorem own_links2 {w : World} {base : Nat} {l : List Lk} {ps : List (Lk × Value)} (hp : ps.map Prod.fst = l) (hl : ∀ p ∈ ps, Leads w w.heap.size p) {x : Lk} {u : Value} (hx : Leads w w.heap.size (x, u)) {v : Value} {n : Nat} (hn : n = l.length)
    (h : w.ownsRow base 52 35 v (n + 1) (lcells ps ++ x.cells u)) : ∃ B c, v = .slice B (n + 1) c ∧ n + 1 ≤ c ∧ c ≤ 9223372036854775807 ∧ LRd w w.heap.size B (l ++ [x]) := by
  have hpl : ps.length = n := by rw [hn, ← hp, List.length_map]
  have e : lcells ps ++ x.cells u = lcells (ps ++ [(x, u)]) := by rw [lcells_append, lcells_one]
  have hlen : (ps ++ [(x, u)]).length = n + 1 := by simp [hpl]
  rw [e, ← hlen] at h
  obtain ⟨B, c, h1, h2, h3, h4⟩ := own_links h (fun p hq => by
    rcases List.mem_append.1 hq with h5 | h5
    · exact hl p h5
    · rw [List.mem_singleton.1 h5]
      exact hx)
  rw [hlen] at h1 h2
  refine ⟨B, c, h1, h2, h3, ?_⟩
  rw [List.map_append, hp] at h4
  exact h4
/-- One link in a block of its own, as what an append takes. -/
theorem src_link {w : World} {g : Nat} {y : Lk} {D : Option Addr} {m c : Nat} (hg : Blk w g 52 (y.cells (.slice D m c)).toArray) (hp : y.prev.length = 32) : Src Tryd.prog 35 43 (.slice (some ⟨g, 0, none⟩) 1 1) 1 (y.cells (.slice D m c)) w := by
  have hlen := y.cells_len (.slice D m c) hp
  have hR : Rd w w.heap.size (some ⟨g, 0, none⟩) (1 * 35) (fun k => (y.cells (.slice D m c)).getD k undef) := Rd.of_blk hg hg.lt fun k hk => by
    rw [Nat.zero_add, List.getElem?_toArray, List.getElem?_eq_getElem (by omega)]
    simp [List.getD_eq_getElem?_getD, List.getElem?_eq_getElem (show k < (y.cells (.slice D m c)).length by omega)]
  have hs := src_rd (P := Tryd.prog) w (size := 35) (tx := 43) (n := 1) (c := 1) Tryd.underlying43 hR (by decide) (fun k hk => by
    have hk2 : k < (y.cells (.slice D m c)).length := by omega
    have e : (y.cells (.slice D m c)).getD k undef = (y.cells (.slice D m c))[k] := by simp [List.getD_eq_getElem?_getD, List.getElem?_eq_getElem hk2]
    rw [e]
    exact Lk.one _ _ _ _ _ (List.getElem_mem hk2))
  rw [list_range_getD _ _ (by rw [hlen])] at hs
  exact hs
set_option maxRecDepth 100000 in
set_option linter.unusedSimpArgs false in
set_option linter.unusedVariables false in
set_option maxHeartbeats 8000000 in
theorem r8Add_any (A D : Option Addr) (l : List Lk) (node : Int) (d : List UInt8) (n c dn dc : Nat) (hn : n = l.length) (hnc : n ≤ c) (hcc : c ≤ 9223372036854775807) (hdn : dn = d.length) (hdl : dn ≤ 9223372036854775807) (hDc : dn ≤ dc) (hDc2 : dc ≤ 9223372036854775807) (w : World) (hA : LRd w w.heap.size A l) (hD : RdB w w.heap.size D d)
    (hd : ∀ y, y < l.length → (l.getD y lk0).data.length ≤ 4611686018427387903) :
    Calls Tryd.prog 40 #[.slice A n c, .int .i64 node, .slice D dn dc] w (AddPost l node d w) := by
  have HC := Lib.hid (r8Check_any A l n c hn (by omega) hnc w hA hd)
  have HA := Lib.hid hA
  have HD := Lib.hid hD
  have HN := Lib.hid hn
  have HDN := Lib.hid hdn
  have HDC := Lib.hid hDc
  have HDC2 := Lib.hid hDc2
  have hAn : A = none → n = 0 ∧ n = 0 := fun e => by
    rcases Nat.eq_zero_or_pos n with h | h
    · exact ⟨h, h⟩
    · obtain ⟨b, off, e2, -⟩ := hA (by omega)
      rw [e] at e2
      cases e2
  have HAN := Lib.hid hAn
  clear hA hD hd hn hdn hDc hDc2 hAn
  have sk : True := trivial
  by_cases t1 : chkOf l = 0
  rotate_left
  · have HB := Lib.hid (fun (w' : World) (hb : Below w.heap.size w w') => AddPost.bad (l := l) (node := node) (d := d) (E := chkOf l) (by rw [addErr, if_pos t1]) t1 rfl hb)
    obtain ⟨e1, he1⟩ : ∃ e1, e1 = chkOf l := ⟨_, rfl⟩
    rw [← he1] at HB t1 HC
    clear he1
    go_enter Tryd.func40, Tryd.ntmps40
    go_wp2_with fail
    refine HC.out.mono ?_
    rintro e w1 ⟨rfl, hb1⟩
    go_wp2
    go_ret2
    exact HB.out _ hb1
  · have HERR := Lib.hid (show addErr l node d.length = if node < 0 ∨ 24 ≤ node ∨ (0 < l.length ∧ (l.getD 0 lk0).node ≠ node) ∨ 65536 < d.length then 1 else if l.length = 1024 then 2 else 0 by rw [addErr, if_neg (fun h => h t1)])
    have HCH := Lib.hid (chkOf_zero t1)
    rw [t1] at HC
    clear t1
    by_cases c1 : node < 0
    · have HB := Lib.hid (fun (w' : World) (hb : Below w.heap.size w w') => AddPost.bad (l := l) (node := node) (d := d) (E := 1) (by rw [HERR.out, if_pos (.inl c1)]) (by decide) rfl hb)
      clear HERR HCH
      go_enter Tryd.func40, Tryd.ntmps40
      go_wp2_with fail
      refine HC.out.mono ?_
      rintro e w1 ⟨rfl, hb1⟩
      go_wp2_with (refine wpList_skip (by rfl) ?_)
      go_ret2
      exact HB.out _ hb1
    have c1' : decide (node < 0) = false := decide_eq_false c1
    by_cases c2 : 24 ≤ node
    · have HB := Lib.hid (fun (w' : World) (hb : Below w.heap.size w w') => AddPost.bad (l := l) (node := node) (d := d) (E := 1) (by rw [HERR.out, if_pos (.inr (.inl c2))]) (by decide) rfl hb)
      clear HERR HCH
      go_enter Tryd.func40, Tryd.ntmps40
      go_wp2_with fail
      refine HC.out.mono ?_
      rintro e w1 ⟨rfl, hb1⟩
      go_wp2_with (refine wpList_skip (by rfl) ?_)
      go_ret2
      exact HB.out _ hb1
    have c2' : decide (24 ≤ node) = false := decide_eq_false c2
    by_cases h0 : 0 < n
    · have g0 : decide ((0 : Int) < (n : Int)) = true := decide_eq_true (by omega)
      obtain ⟨x, hx⟩ : ∃ x, l[0]? = some x := ⟨_, List.getElem?_eq_getElem (by rw [← HN.out]; exact h0)⟩
      obtain ⟨b, off, rfl, hbw, -, E, ec, hrg, -, -, -⟩ := HA.out.at_ hx
      have k1 : w.cell? ⟨b, off, none⟩ = some (.int .i64 x.node) := by have h := hrg 0 _ rfl; rw [Nat.zero_mul] at h; exact h
      have HX := Lib.hid (show (l.getD 0 lk0).node = x.node by rw [List.getD_eq_getElem?_getD, hx]; rfl)
      obtain ⟨xn, hxn⟩ : ∃ z, z = x.node := ⟨_, rfl⟩
      rw [← hxn] at k1 HX
      have K1 := Lib.hid k1
      clear hrg hx hxn k1
      by_cases hq : node = xn
      · subst hq
        have hne : ¬ (0 < l.length ∧ (l.getD 0 lk0).node ≠ node) := fun h => h.2 HX.out
        have HNE := Lib.hid hne
        have b0 : (node != node) = false := by simp
        clear hne
        by_cases c3 : 65536 < dn
        · have HB := Lib.hid (fun (w' : World) (hb : Below w.heap.size w w') => AddPost.bad (l := l) (node := node) (d := d) (E := 1) (by rw [HERR.out, if_pos (.inr (.inr (.inr (by rw [← HDN.out]; exact c3))))]) (by decide) rfl hb)
          clear HERR HCH HNE
          go_enter Tryd.func40, Tryd.ntmps40
          go_wp2_with fail
          refine HC.out.mono ?_
          rintro e w1 ⟨rfl, hb1⟩
          have k2 : w1.cell? ⟨b, off, none⟩ = some (.int .i64 node) := (hb1.cell (p := ⟨b, off, none⟩) hbw).trans K1.out
          go_wp2_with (refine wpList_skip (by rfl) ?_)
          go_ret2
          exact HB.out _ hb1
        have c3' : decide ((65536 : Int) < (dn : Int)) = false := decide_eq_false (by omega)
        by_cases c4 : n = 1024
        · have HB := Lib.hid (fun (w' : World) (hb : Below w.heap.size w w') => AddPost.bad (l := l) (node := node) (d := d) (E := 2) (by rw [HERR.out, if_neg (by rintro (h | h | h | h) <;> first | exact HNE.out h | (have := HDN.out; omega)), if_pos (by rw [← HN.out]; exact c4)]) (by decide) rfl hb)
          clear HERR HCH HNE
          subst c4
          go_enter Tryd.func40, Tryd.ntmps40
          go_wp2_with fail
          refine HC.out.mono ?_
          rintro e w1 ⟨rfl, hb1⟩
          have k2 : w1.cell? ⟨b, off, none⟩ = some (.int .i64 node) := (hb1.cell (p := ⟨b, off, none⟩) hbw).trans K1.out
          go_wp2_with (refine wpList_skip (by rfl) ?_)
          go_ret2
          exact HB.out _ hb1
        · have HERR2 := Lib.hid (show addErr l node d.length = 0 by rw [HERR.out, if_neg (by rintro (h | h | h | h) <;> first | exact HNE.out h | (have := HDN.out; omega)), if_neg (by rw [← HN.out]; exact c4)])
          have c4' : ((n : Int) == 1024) = false := by simpa using (show ¬ (n : Int) = 1024 by omega)
          clear HERR HNE
          go_enter Tryd.func40, Tryd.ntmps40
          go_wp2_with fail
          refine HC.out.mono ?_
          rintro e w1 ⟨rfl, hb1⟩
          have k2 : w1.cell? ⟨b, off, none⟩ = some (.int .i64 node) := (hb1.cell (p := ⟨b, off, none⟩) hbw).trans K1.out
          have hA1 := HA.out.later hb1
          have hE := own_links_new w1 w1.heap.size (Nat.le_refl _)
          have hbE : Below w1.heap.size w1 (w1.alloc (.cells #[] 52)) := (Below.refl _ _).alloc (Nat.le_refl _) _
          obtain ⟨ps, hps, hld, hsrc⟩ := src_links (c := c) (hA1.below hbE) HN.out
          have hn10 : n ≤ 1024 := by have := HCH.out.1; have := HN.out; omega
          have HLD := Lib.hid hld
          have HPS := Lib.hid hps
          have HSRC := Lib.hid hsrc
          have HE := Lib.hid hE
          have HBE := Lib.hid (hb1.trans (hbE.mono hb1.size))
          have HBS := Lib.hid hbE.size
          clear hA1 hE hbE hps hld hsrc
          go_wp2_with (first | (at_builtin; refine app_links rfl _ _ rfl w1.heap.size (.slice (some ⟨w1.heap.size, 0, none⟩) 0 0) 0 [] rfl HE.out (.slice (some ⟨b, off, none⟩) n c) n (lcells ps) rfl HSRC.out (by omega) HBS.out ?_; intro v2 w2 hown2 hg2) | (refine wpList_skip (by rfl) ?_))
          have hb2 : Below w.heap.size w w2 := HBE.out.trans (hg2.below (Nat.le_trans hb1.size HBS.out) fun k hk => by cases hk; exact hb1.size)
          have hb12 : Below w1.heap.size (w1.alloc (.cells #[] 52)) w2 := hg2.below HBS.out fun k hk => by cases hk; exact Nat.le_refl _
          rw [Nat.zero_add, List.nil_append] at hown2
          have HOWN2 := Lib.hid hown2
          have HB12 := Lib.hid hb12
          have hld2 : ∀ p ∈ ps, Leads w2 w2.heap.size p := fun p hp => (HLD.out p hp).later hb12 (Nat.le_trans HBS.out hb12.size)
          have HLD2 := Lib.hid hld2
          have hB12s := hb12.size
          clear hown2 hg2 hb12 hld2
          have hH : Calls Tryd.prog 79 #[.slice (some ⟨b, off, none⟩) n c] w2 (Ret (.agg (dig (headOf l))) w2) := r8Head_any (some ⟨b, off, none⟩) l n c HN.out (by omega) (chk_fine HCH.out.2 HCH.out.1) w2 (HA.out.later hb2)
          refine hH.mono ?_
          rintro e w3 ⟨rfl, hb3⟩
          have hB3 := hb2.trans (hb3.mono hb2.size)
          have hO3 := own_below HOWN2.out hb3
          obtain ⟨H, hHd⟩ : ∃ H, H = headOf l := ⟨_, rfl⟩
          have hHl : H.length = 32 := by rw [hHd]; exact headOf_length _
          rw [← hHd]
          have HH := Lib.hid hHd
          have hld3 : ∀ p ∈ ps, Leads w3 w3.heap.size p := fun p hp => (HLD2.out p hp).later hb3 hb3.size
          have hbase3 : w1.heap.size ≤ w3.heap.size := Nat.le_trans (Nat.le_trans HBS.out hB12s) hb3.size
          have HB13 := Lib.hid (HB12.out.trans (hb3.mono (Nat.le_trans HBS.out hB12s)))
          have HB3 := Lib.hid hB3
          clear hH hHd hb3 hb2
          obtain ⟨XL, hXL⟩ : ∃ XL : Lk, XL = ⟨node, (n : Nat), H, d⟩ := ⟨_, rfl⟩
          have hXp : XL.prev.length = 32 := by rw [hXL]; exact hHl
          have hx0 : XL.node = node := by rw [hXL]
          have hx1 : XL.no = (n : Nat) := by rw [hXL]
          have hx2 : XL.prev = H := by rw [hXL]
          have hx3 : XL.data = d := by rw [hXL]
          have HX0 := Lib.hid hx0
          have HX1 := Lib.hid hx1
          have HX2 := Lib.hid hx2
          have HX3 := Lib.hid hx3
          have HXL := Lib.hid hXL
          clear hXL hHl hx0 hx1 hx2 hx3
          have hXn : Blk (w3.alloc (.cells (XL.cells (.slice D dn dc)).toArray 52)) w3.heap.size 52 (XL.cells (.slice D dn dc)).toArray := Blk.new _ _ _
          have hO4 := hO3.alloc (.cells (XL.cells (.slice D dn dc)).toArray 52)
          have HO4 := Lib.hid hO4
          have HXN := Lib.hid (src_link hXn hXp)
          have HLD3 := Lib.hid hld3
          have HS3 := Lib.hid hbase3
          clear hO3 hO4 hXn hld3 hbase3 hB12s
          go_wp2_with (first | (refine build_link rfl _ _ _ _ rfl XL D dn dc hXp (by rw [HX0.out]; rfl) (by rw [HX1.out]; rfl) (by rw [HX2.out]; rfl) rfl ?_) | (refine bslice_links rfl _ rfl XL D dn dc hXp rfl ?_) | (at_builtin; refine app_links rfl _ _ rfl w1.heap.size v2 n (lcells ps) rfl HO4.out (.slice (some ⟨w3.heap.size, 0, none⟩) 1 1) 1 _ rfl HXN.out (by omega) (Nat.le_trans HS3.out (by simp)) ?_; intro v5 w5 hown5 hg5))
          have hg15 : Below w1.heap.size (w3.alloc (.cells (XL.cells (.slice D dn dc)).toArray 52)) w5 := hg5.below (Nat.le_trans HS3.out (by simp)) (fun k hk => (World.ownsRow.lt HO4.out k hk).1)
          have hb15 : Below w1.heap.size (w1.alloc (.cells #[] 52)) w5 := (HB13.out.alloc HS3.out _).trans hg15
          have hb05 : Below w.heap.size w w5 := ((HB3.out.alloc HB3.out.size _).trans (hg15.mono hb1.size))
          have hz5 := hb15.size
          have hld5 : ∀ p ∈ ps, Leads w5 w5.heap.size p := fun p hp => (HLD.out p hp).later hb15 (Nat.le_trans HBS.out hz5)
          have hx5 : Leads w5 w5.heap.size (XL, .slice D dn dc) := ⟨hXp, D, dc, by rw [HX3.out, ← HDN.out], by rw [HX3.out, ← HDN.out]; exact HDC.out, HDC2.out, by rw [HX3.out]; exact (HD.out.below hb05).more hb05.size⟩
          obtain ⟨B5, c5, rfl, hc5, hc5', hl5⟩ := own_links2 HPS.out hld5 hx5 HN.out hown5
          have hadd : addL l node d = l ++ [XL] := by rw [addL, HXL.out, ← HN.out, ← HH.out]
          rw [← hadd] at hl5
          have HL5 := Lib.hid hl5
          clear hl5 hadd hg15 hb15 hld5 hx5 hown5 hg5
          go_ret2
          exact .inl ⟨HERR2.out, B5, c5, (by rw [← HN.out]; first | done | rfl), by rw [← HN.out]; exact hc5, hc5', HL5.out, hb05⟩
      · have HB := Lib.hid (fun (w' : World) (hb : Below w.heap.size w w') => AddPost.bad (l := l) (node := node) (d := d) (E := 1) (by rw [HERR.out, if_pos (.inr (.inr (.inl ⟨by rw [← HN.out]; exact h0, by rw [HX.out]; exact fun e => hq e.symm⟩)))]) (by decide) rfl hb)
        have b1 : (node != xn) = true := by simpa using hq
        clear HERR HCH
        go_enter Tryd.func40, Tryd.ntmps40
        go_wp2_with fail
        refine HC.out.mono ?_
        rintro e w1 ⟨rfl, hb1⟩
        have k2 : w1.cell? ⟨b, off, none⟩ = some (.int .i64 xn) := (hb1.cell (p := ⟨b, off, none⟩) hbw).trans K1.out
        go_wp2_with (refine wpList_skip (by rfl) ?_)
        go_ret2
        exact HB.out _ hb1
    · obtain rfl : n = 0 := by omega
      have hne : ¬ (0 < l.length ∧ (l.getD 0 lk0).node ≠ node) := fun h => by have := h.1; have := HN.out; omega
      have HNE := Lib.hid hne
      clear hne
      by_cases c3 : 65536 < dn
      · have HB := Lib.hid (fun (w' : World) (hb : Below w.heap.size w w') => AddPost.bad (l := l) (node := node) (d := d) (E := 1) (by rw [HERR.out, if_pos (.inr (.inr (.inr (by rw [← HDN.out]; exact c3))))]) (by decide) rfl hb)
        clear HERR HCH HNE
        go_enter Tryd.func40, Tryd.ntmps40
        go_wp2_with fail
        refine HC.out.mono ?_
        rintro e w1 ⟨rfl, hb1⟩
        go_wp2_with (refine wpList_skip (by rfl) ?_)
        go_ret2
        exact HB.out _ hb1
      · have HERR2 := Lib.hid (show addErr l node d.length = 0 by rw [HERR.out, if_neg (by rintro (h | h | h | h) <;> first | exact HNE.out h | (have := HDN.out; omega)), if_neg (by rw [← HN.out]; decide)])
        have c3' : decide ((65536 : Int) < (dn : Int)) = false := decide_eq_false (by omega)
        clear HERR HNE
        go_enter Tryd.func40, Tryd.ntmps40
        go_wp2_with fail
        refine HC.out.mono ?_
        rintro e w1 ⟨rfl, hb1⟩
        have hA1 := HA.out.later hb1
        have hE := own_links_new w1 w1.heap.size (Nat.le_refl _)
        have hbE : Below w1.heap.size w1 (w1.alloc (.cells #[] 52)) := (Below.refl _ _).alloc (Nat.le_refl _) _
        obtain ⟨ps, hps, hld, hsrc⟩ := src_links (c := c) (hA1.below hbE) HN.out
        have hn10 : 0 ≤ 1024 := by have := HCH.out.1; have := HN.out; omega
        have HLD := Lib.hid hld
        have HPS := Lib.hid hps
        have HSRC := Lib.hid hsrc
        have HE := Lib.hid hE
        have HBE := Lib.hid (hb1.trans (hbE.mono hb1.size))
        have HBS := Lib.hid hbE.size
        clear hA1 hE hbE hps hld hsrc
        go_wp2_with (first | (at_builtin; refine app_links rfl _ _ rfl w1.heap.size (.slice (some ⟨w1.heap.size, 0, none⟩) 0 0) 0 [] rfl HE.out (.slice A 0 c) 0 (lcells ps) rfl HSRC.out (by omega) HBS.out ?_; intro v2 w2 hown2 hg2) | (refine wpList_skip (by rfl) ?_))
        have hb2 : Below w.heap.size w w2 := HBE.out.trans (hg2.below (Nat.le_trans hb1.size HBS.out) fun k hk => by cases hk; exact hb1.size)
        have hb12 : Below w1.heap.size (w1.alloc (.cells #[] 52)) w2 := hg2.below HBS.out fun k hk => by cases hk; exact Nat.le_refl _
        rw [Nat.zero_add, List.nil_append] at hown2
        have HOWN2 := Lib.hid hown2
        have HB12 := Lib.hid hb12
        have hld2 : ∀ p ∈ ps, Leads w2 w2.heap.size p := fun p hp => (HLD.out p hp).later hb12 (Nat.le_trans HBS.out hb12.size)
        have HLD2 := Lib.hid hld2
        have hB12s := hb12.size
        clear hown2 hg2 hb12 hld2
        have hH : Calls Tryd.prog 79 #[.slice A 0 c] w2 (Ret (.agg (dig (headOf l))) w2) := r8Head_any A l 0 c HN.out (by omega) (chk_fine HCH.out.2 HCH.out.1) w2 (HA.out.later hb2)
        refine hH.mono ?_
        rintro e w3 ⟨rfl, hb3⟩
        have hB3 := hb2.trans (hb3.mono hb2.size)
        have hO3 := own_below HOWN2.out hb3
        obtain ⟨H, hHd⟩ : ∃ H, H = headOf l := ⟨_, rfl⟩
        have hHl : H.length = 32 := by rw [hHd]; exact headOf_length _
        rw [← hHd]
        have HH := Lib.hid hHd
        have hld3 : ∀ p ∈ ps, Leads w3 w3.heap.size p := fun p hp => (HLD2.out p hp).later hb3 hb3.size
        have hbase3 : w1.heap.size ≤ w3.heap.size := Nat.le_trans (Nat.le_trans HBS.out hB12s) hb3.size
        have HB13 := Lib.hid (HB12.out.trans (hb3.mono (Nat.le_trans HBS.out hB12s)))
        have HB3 := Lib.hid hB3
        clear hH hHd hb3 hb2
        obtain ⟨XL, hXL⟩ : ∃ XL : Lk, XL = ⟨node, (0 : Nat), H, d⟩ := ⟨_, rfl⟩
        have hXp : XL.prev.length = 32 := by rw [hXL]; exact hHl
        have hx0 : XL.node = node := by rw [hXL]
        have hx1 : XL.no = (0 : Nat) := by rw [hXL]
        have hx2 : XL.prev = H := by rw [hXL]
        have hx3 : XL.data = d := by rw [hXL]
        have HX0 := Lib.hid hx0
        have HX1 := Lib.hid hx1
        have HX2 := Lib.hid hx2
        have HX3 := Lib.hid hx3
        have HXL := Lib.hid hXL
        clear hXL hHl hx0 hx1 hx2 hx3
        have hXn : Blk (w3.alloc (.cells (XL.cells (.slice D dn dc)).toArray 52)) w3.heap.size 52 (XL.cells (.slice D dn dc)).toArray := Blk.new _ _ _
        have hO4 := hO3.alloc (.cells (XL.cells (.slice D dn dc)).toArray 52)
        have HO4 := Lib.hid hO4
        have HXN := Lib.hid (src_link hXn hXp)
        have HLD3 := Lib.hid hld3
        have HS3 := Lib.hid hbase3
        clear hO3 hO4 hXn hld3 hbase3 hB12s
        go_wp2_with (first | (refine build_link rfl _ _ _ _ rfl XL D dn dc hXp (by rw [HX0.out]; rfl) (by rw [HX1.out]; rfl) (by rw [HX2.out]; rfl) rfl ?_) | (refine bslice_links rfl _ rfl XL D dn dc hXp rfl ?_) | (at_builtin; refine app_links rfl _ _ rfl w1.heap.size v2 0 (lcells ps) rfl HO4.out (.slice (some ⟨w3.heap.size, 0, none⟩) 1 1) 1 _ rfl HXN.out (by omega) (Nat.le_trans HS3.out (by simp)) ?_; intro v5 w5 hown5 hg5))
        have hg15 : Below w1.heap.size (w3.alloc (.cells (XL.cells (.slice D dn dc)).toArray 52)) w5 := hg5.below (Nat.le_trans HS3.out (by simp)) (fun k hk => (World.ownsRow.lt HO4.out k hk).1)
        have hb15 : Below w1.heap.size (w1.alloc (.cells #[] 52)) w5 := (HB13.out.alloc HS3.out _).trans hg15
        have hb05 : Below w.heap.size w w5 := ((HB3.out.alloc HB3.out.size _).trans (hg15.mono hb1.size))
        have hz5 := hb15.size
        have hld5 : ∀ p ∈ ps, Leads w5 w5.heap.size p := fun p hp => (HLD.out p hp).later hb15 (Nat.le_trans HBS.out hz5)
        have hx5 : Leads w5 w5.heap.size (XL, .slice D dn dc) := ⟨hXp, D, dc, by rw [HX3.out, ← HDN.out], by rw [HX3.out, ← HDN.out]; exact HDC.out, HDC2.out, by rw [HX3.out]; exact (HD.out.below hb05).more hb05.size⟩
        obtain ⟨B5, c5, rfl, hc5, hc5', hl5⟩ := own_links2 HPS.out hld5 hx5 HN.out hown5
        have hadd : addL l node d = l ++ [XL] := by rw [addL, HXL.out, ← HN.out, ← HH.out]
        rw [← hadd] at hl5
        have HL5 := Lib.hid hl5
        clear hl5 hadd hg15 hb15 hld5 hx5 hown5 hg5
        go_ret2
        exact .inl ⟨HERR2.out, B5, c5, (by rw [← HN.out]; first | done | rfl), by rw [← HN.out]; exact hc5, hc5', HL5.out, hb05⟩
end Go.Proofs.YtibnikokgbfcdaaDoor

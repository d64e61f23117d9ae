/- Walks: podiumlaw55.exchanged, count. -/
import Derived.Test.YtibnikokgbfcdaaDoorCount
import Derived.Test.YtibnikokgbfcdaaDoorSamp2
import Derived.BigRegion
namespace Go.Proofs.YtibnikokgbfcdaaDoor
open Go.RowKit

theorem shuf_congr (f g : Nat → Nat) : ∀ (i : Nat) (L : List Int), (∀ j, 1 ≤ j → j ≤ i → f j = g j) → shuf f i L = shuf g i L
  | 0, _, _ => rfl
  | i + 1, L, h => by rw [shuf, shuf, h (i + 1) (by omega) (Nat.le_refl _), shuf_congr f g i _ (fun j h1 h2 => h j h1 (by omega))]

def XRel (w : World) (n : Nat) (x v : Value) (wr : World) : Prop := ∃ j : Nat, j ≤ n ∧ x = .int .i64 j ∧ IOwn wr w.heap.size v (iota j) ∧ Below w.heap.size w wr
def XRel2 (w : World) (N : Nat → Nat) (n : Nat) (v x : Value) (wr : World) : Prop :=
  ∃ (i : Nat) (L : List Int), (x = .int .i64 i ∨ (i = 0 ∧ x = .int .i64 (-1))) ∧ (i < n ∨ i = 0) ∧ IOwn wr w.heap.size v L ∧ L.length = n ∧ shuf N i L = shuf N (n - 1) (iota n) ∧ Below w.heap.size w wr
theorem XRel2.start {w : World} {N : Nat → Nat} {n : Nat} {v : Value} {wr : World} (hown : IOwn wr w.heap.size v (iota n)) (hB : Below w.heap.size w wr) : XRel2 w N n v (.int .i64 ((n : Int) - 1)) wr := by
  rcases Nat.eq_zero_or_pos n with rfl | h
  · exact ⟨0, iota 0, .inr ⟨rfl, rfl⟩, .inr rfl, hown, rfl, rfl, hB⟩
  · exact ⟨n - 1, iota n, .inl (by congr 1; omega), .inl (by omega), hown, iota_length n, rfl, hB⟩
theorem XRel2.drew {w wr : World} {N : Nat → Nat} {n : Nat} {v x : Value} (h : XRel2 w N n v x wr) : XRel2 w N n v x wr.drew := by
  obtain ⟨i, L, h1, h2, h3, h4, h5, h7⟩ := h
  exact ⟨i, L, h1, h2, own_drew h3, h4, h5, h7.drew⟩
theorem XRel2.swap {w wr : World} {N : Nat → Nat} {n i g c : Nat} {L : List Int} (hrow : wr.ownsRow w.heap.size 3 1 (.slice (some ⟨g, 0, none⟩) n c) n (icells L)) (hLn : L.length = n) (hi : 0 < i) (hin : i < n) (hs : shuf N i L = shuf N (n - 1) (iota n))
    (hB : Below w.heap.size w wr) (x : Value) (hx : x = .int .i64 ((i : Int) - 1)) (k : Nat) (hk : k = N i) (u v : Value) (hu : u = .int .i64 (L.getD k 0)) (hv : v = .int .i64 (L.getD i 0)) :
    XRel2 w N n (.slice (some ⟨g, 0, none⟩) n c) x ((wr.setCell ⟨g, i, none⟩ u).setCell ⟨g, k, none⟩ v) := by
  subst hk hu hv hx hLn
  have hown : IOwn wr w.heap.size (.slice (some ⟨g, 0, none⟩) L.length c) L := hrow
  obtain ⟨h1, g1⟩ := hown.swap i (N i)
  obtain ⟨i, rfl⟩ : ∃ j, i = j + 1 := ⟨i - 1, by omega⟩
  have hlt := World.ownsRow.lt hown g rfl
  exact ⟨i, swapL L (i + 1) (N (i + 1)), .inl (by congr 1; omega), .inl (by omega), h1, swapL_length _ _ _, hs, hB.trans (g1.below hB.size fun k e => by have : g = k := Option.some.inj e; omega)⟩
def XPost (L : List Int) (k : Nat) (w : World) (e : Ending) (w' : World) : Prop :=
  ∃ B c, e = .returned (.slice B k c) ∧ Rd w' w'.heap.size B k (fun i => .int .i64 (L.getD i 0)) ∧ Below w.heap.size w w'
set_option maxRecDepth 100000 in
set_option maxHeartbeats 4000000 in
theorem exchanged_any (n k : Nat) (hk : k ≤ n) (hn : n ≤ 40) (A : Option Addr) (cA : Nat) (N : Nat → Nat) (hN : ∀ i, i < n → N i ≤ i) (w : World) (hR : Rd w w.heap.size A n (fun i => .int .i64 ((N i : Nat) : Int))) :
    Calls Tryd.prog 67 #[.int .i64 n, .int .i64 k, .slice A n cA] w (XPost (shuf N (n - 1) (iota n)) k w) := by
  have HR := Lib.hid hR
  have HN := Lib.hid hN
  clear hR hN
  go_enter Tryd.func67, Tryd.ntmps67
  go_wp2_with fail
  go_loopw [7, 8] (fun v x wr => XRel w n x v wr) (fun _ x _ => n - (intOf x).toNat)
  case atStart => exact ⟨0, by omega, rfl, IOwn.nil _ _, Below.refl _ _⟩
  case round =>
    obtain ⟨j, hj, rfl, hown, hB⟩ := hrel
    by_cases hlt : j < n
    · have hO1 := hown.alloc (.cells #[.int .i64 j] 3)
      have hlen : (iota j).length = j := iota_length j
      have hbs := hB.size
      go_wp2_with (at_builtin; refine app_int rfl _ _ rfl w.heap.size u7 _ rfl hO1 j (Blk.new _ _ _) rfl (by omega) (by simp; omega) ?_; intro v2 w2 hown2 hg2)
      go_roundw
      case rel =>
        have hg := hg2.alloc_first
        refine ⟨j + 1, by omega, by go_num, by rw [iota_succ]; exact hown2, hB.trans (hg.below hB.size fun k hk => by have := (World.ownsRow.lt hown _ hk).1; omega)⟩
      case measure => simp [intOf]; omega
    · obtain rfl : j = n := by omega
      go_wp2_with fail
      have hst := XRel2.start (N := N) hown hB
      clear hown hB hlt
      go_loopw [9] (fun x wr => XRel2 w N j u7 x wr) (fun x _ => (intOf x).toNat)
      case atStart => exact hst
      case round =>
        clear hst
        obtain ⟨i, L, hx, hin, hown, hLn, hs, hB⟩ := hrel
        by_cases hi : 0 < i
        · obtain rfl : u9 = .int .i64 i := by
            rcases hx with h | h
            · exact h
            · omega
          have hij : i < j := by omega
          have hkle := HN.out i hij
          obtain ⟨b, off, rfl, _, hc⟩ := (HR.out.below hB).at_ (k := i) hij
          obtain ⟨k2, hk2⟩ : ∃ k2, k2 = N i := ⟨_, rfl⟩
          rw [← hk2] at hc hkle
          have HK := Lib.hid hk2
          clear hx hin hk2
          obtain ⟨g, c, rfl, hlc, hrow⟩ := hown.row hLn (by omega)
          clear hown
          have HS := Lib.hid (fun x hx u v hu hv => XRel2.swap hrow hLn hi hij hs hB x hx k2 HK.out u v hu hv)
          have ci : wr.cell? ⟨g, i, none⟩ = some (.int .i64 (L.getD i 0)) := (World.ownsRow.cellAt hrow i (by omega)).trans (icells_get L i (by omega))
          have ck : wr.cell? ⟨g, k2, none⟩ = some (.int .i64 (L.getD k2 0)) := (World.ownsRow.cellAt hrow k2 (by omega)).trans (icells_get L k2 (by omega))
          have fi := World.ownsRow.frozenAt hrow i
          have fk := World.ownsRow.frozenAt hrow k2
          clear hrow hB
          obtain ⟨li, hli⟩ : ∃ li, li = L.getD i 0 := ⟨_, rfl⟩
          obtain ⟨lk, hlk⟩ : ∃ lk, lk = L.getD k2 0 := ⟨_, rfl⟩
          rw [← hli] at ci
          rw [← hlk] at ck
          have HLI := Lib.hid hli
          have HLK := Lib.hid hlk
          clear hli hlk
          go_wp2_with fail
          have hkj : k2 < j := by omega
          obtain ⟨_, c15⟩ := cell?_setCell_some (p := ⟨g, i, none⟩) (x := .int .i64 lk) ck
          go_region
          clear ci ck fi fk c15 hc
          go_wp2_with fail
          go_roundw
          case rel => exact (HS.out _ rfl (.int .i64 lk) (.int .i64 li) (by rw [HLK.out]) (by rw [HLI.out])).drew
          case measure => simp [intOf]; omega
        · have ho : i = 0 := by omega
          subst ho
          have ho2 : L = shuf N (j - 1) (iota j) := hs
          rcases hown.2 with ⟨hv, h0⟩ | ⟨g, cap, cur, hv, hbg, hg, hnc, hcm, hcs, htake⟩
          · obtain rfl : j = 0 := by omega
            obtain rfl : k = 0 := by omega
            subst hv
            have hsl := fun W => slice2_none W
            clear hs ho2 hown
            rcases hx with rfl | ⟨-, rfl⟩
            all_goals
              go_wp2
              go_ret
              exact ⟨_, _, rfl, Rd.zero, hB⟩
          · rw [hLn] at hv hnc
            subst hv
            have hrd : Rd wr wr.heap.size (some ⟨g, 0, none⟩) k (fun i => .int .i64 ((shuf N (j - 1) (iota j)).getD i 0)) := by
              rw [← ho2]
              exact (hown.rd hLn).take hk
            have hsl : ∀ W : World, (Instr.slice 32 (.slice (some ⟨g, 0, none⟩) j cap) none (some (.int .i64 (k : Int))) none).run Tryd.prog W = .ok (.slice (some ⟨g, 0, none⟩) k cap) W := fun W => slice2_some W g j cap k hk hnc
            have HRD := Lib.hid hrd
            clear hs ho2 hown hg hcs htake hrd
            rcases hx with rfl | ⟨-, rfl⟩
            all_goals
              go_wp2
              go_ret
              exact ⟨_, _, rfl, HRD.out, hB⟩

/-! count -/
/-- The numbers, as choices. -/
def chOf (L : List Int) : Nat → Nat := fun i => (L.getD i 0).toNat
def Valid (n : Nat) (L : List Int) : Prop := L.length = n ∧ ∀ i, i < n → 0 ≤ L.getD i 0 ∧ L.getD i 0 ≤ i
def okOf (n : Nat) (want : List Int) : (Nat → Nat) → Nat := fun f => hits want (shuf f (n - 1) (iota n))
theorem okOf_congr (n : Nat) (want : List Int) (f g : Nat → Nat) (h : ∀ i, i < n → f i = g i) : okOf n want f = okOf n want g := by
  rw [okOf, okOf, shuf_congr f g (n - 1) _ (fun j h1 h2 => h j (by omega))]
theorem cntF_congr (n : Nat) (want : List Int) : ∀ (r : Nat) (f g : Nat → Nat), r ≤ n → (∀ i, i < n - r → f i = g i) → cntF n (okOf n want) r f = cntF n (okOf n want) r g
  | 0, f, g, _, h => okOf_congr n want f g (fun i hi => h i (by omega))
  | r + 1, f, g, hr, h => by
    rw [cntF, cntF]
    refine sm_congr _ fun v _ => cntF_congr n want r _ _ (by omega) fun i hi => ?_
    simp only [upd]
    by_cases e : i = n - (r + 1)
    · rw [if_pos e, if_pos e]
    · rw [if_neg e, if_neg e, h i (by omega)]
theorem sm_bound (f : Nat → Nat) (B : Nat) : ∀ n, (∀ i, i < n → f i ≤ B) → sm n f ≤ n * B
  | 0, _ => by simp [sm]
  | n + 1, h => by
    rw [sm, Nat.add_mul]
    have := sm_bound f B n (fun i hi => h i (by omega))
    have := h n (by omega)
    omega
theorem cntF_bound (n : Nat) (hn : n ≤ 6) (want : List Int) : ∀ (r : Nat) (f : Nat → Nat), cntF n (okOf n want) r f ≤ 6 ^ r
  | 0, f => by
    show okOf n want f ≤ 1
    rw [okOf, hits]
    split <;> omega
  | r + 1, f => by
    rw [cntF]
    have h := sm_bound (fun v => cntF n (okOf n want) r (upd f (n - (r + 1)) v)) (6 ^ r) (n - r) (fun i _ => cntF_bound n hn want r _)
    have h2 : (n - r) * 6 ^ r ≤ 6 * 6 ^ r := Nat.mul_le_mul_right _ (by omega)
    rw [Nat.pow_succ]
    omega
theorem Valid.set {n : Nat} {L : List Int} (h : Valid n L) (j v : Nat) (hv : v ≤ j) (hj : j < n) : Valid n (L.set j (v : Int)) := by
  refine ⟨by rw [List.length_set]; exact h.1, fun i hi => ?_⟩
  rw [getD_set _ _ _ _ (by rw [h.1]; exact hj)]
  by_cases e : i = j
  · subst e
    rw [if_pos rfl]
    omega
  · rw [if_neg e]
    exact h.2 i hi
theorem chOf_set (L : List Int) (j v : Nat) (hj : j < L.length) : chOf (L.set j (v : Int)) = upd (chOf L) j v := by
  funext i
  simp only [chOf, upd]
  rw [getD_set _ _ _ _ hj]
  by_cases e : i = j
  · rw [if_pos e, if_pos e]
    simp
  · rw [if_neg e, if_neg e]
/-- Behind a count: the numbers before the place stand. -/
def CPost (n g at_ : Nat) (L : List Int) (c : Nat) (w : World) (e : Ending) (w' : World) : Prop :=
  e = .returned (.int .i64 c) ∧ (∃ L', IOwn w' g (.slice (some ⟨g, 0, none⟩) n n) L' ∧ Valid n L' ∧ ∀ i, i < at_ → L'.getD i 0 = L.getD i 0) ∧ Below g w w'
set_option maxRecDepth 100000 in
set_option maxHeartbeats 4000000 in
theorem count_end (n : Nat) (hn : n ≤ 6) (B : Option Addr) (cB : Nat) (want : List Int) (hk : want.length ≤ n) (g : Nat) (L : List Int) (hV : Valid n L) (w : World) (hown : IOwn w g (.slice (some ⟨g, 0, none⟩) n n) L) (hgw : g ≤ w.heap.size)
    (hR : Rd w g B want.length (fun i => .int .i64 (want.getD i 0))) :
    Calls Tryd.prog 68 #[.int .i64 n, .slice (some ⟨g, 0, none⟩) n n, .int .i64 n, .slice B want.length cB] w (CPost n g n L (okOf n want (chOf L)) w) := by
  have hX := exchanged_any n want.length hk (by omega) (some ⟨g, 0, none⟩) n (chOf L) (fun i hi => by have := hV.2 i hi; simp only [chOf]; omega) w ((hown.rd hV.1).congr fun i hi => by
    have := hV.2 i hi
    simp only [chOf]
    rw [Int.toNat_of_nonneg this.1])
  have HX := Lib.hid hX
  have HV := Lib.hid hV
  have HR := Lib.hid hR
  have HO := Lib.hid hown
  obtain ⟨k, hkk⟩ : ∃ k, k = want.length := ⟨_, rfl⟩
  rw [← hkk] at HX HR hk ⊢
  have HK := Lib.hid hkk
  clear hX hV hR hown hkk
  go_enter Tryd.func68, Tryd.ntmps68
  go_wp2_with fail
  refine HX.out.mono ?_
  rintro e w1 ⟨B1, c1, rfl, hr1, hb1⟩
  have hRw := (HR.out.below (hb1.mono hgw)).more (Nat.le_trans hgw hb1.size)
  have hO1 := HO.out.below hb1
  go_wp2_with fail
  have hS := sameInts_any B1 B ((shuf (chOf L) (n - 1) (iota n)).take k) want c1 cB w1 (by
      rw [List.length_take, shuf_length, iota_length, Nat.min_eq_left hk]
      exact hr1.congr fun i hi => by rw [List.getD_eq_getElem?_getD, List.getD_eq_getElem?_getD, List.getElem?_take_of_lt hi]) (by rw [← HK.out]; exact hRw) (by rw [List.length_take]; omega)
  rw [List.length_take, shuf_length, iota_length, Nat.min_eq_left hk, ← HK.out] at hS
  refine hS.mono ?_
  rintro e w2 ⟨rfl, hb2⟩
  have hO2 := hO1.below hb2
  have hBg : Below g w w2 := (hb1.mono hgw).trans (hb2.mono (Nat.le_trans hgw hb1.size))
  by_cases hh : (shuf (chOf L) (n - 1) (iota n)).take k = want
  · rw [decide_eq_true hh]
    have ho : okOf n want (chOf L) = 1 := by rw [okOf, hits, ← HK.out, if_pos hh]
    have HOK := Lib.hid ho
    clear hS ho hr1 hRw hb1 hb2 hO1
    go_wp2_with fail
    go_ret
    exact ⟨by rw [HOK.out]; rfl, ⟨L, hO2, HV.out, fun _ _ => rfl⟩, hBg⟩
  · rw [decide_eq_false hh]
    have ho : okOf n want (chOf L) = 0 := by rw [okOf, hits, ← HK.out, if_neg hh]
    have HOK := Lib.hid ho
    clear hS ho hr1 hRw hb1 hb2 hO1
    go_wp2_with fail
    go_ret
    exact ⟨by rw [HOK.out]; rfl, ⟨L, hO2, HV.out, fun _ _ => rfl⟩, hBg⟩
set_option maxRecDepth 100000 in
set_option maxHeartbeats 4000000 in
theorem count_step (n r : Nat) (hn : n ≤ 6) (hr : r + 1 ≤ n) (B : Option Addr) (cB : Nat) (want : List Int) (g : Nat)
    (ih : ∀ (L : List Int) (w : World), Valid n L → IOwn w g (.slice (some ⟨g, 0, none⟩) n n) L → g ≤ w.heap.size → Rd w g B want.length (fun i => .int .i64 (want.getD i 0)) →
      Calls Tryd.prog 68 #[.int .i64 n, .slice (some ⟨g, 0, none⟩) n n, .int .i64 ((n - r : Nat) : Int), .slice B want.length cB] w (CPost n g (n - r) L (cntF n (okOf n want) r (chOf L)) w))
    (L : List Int) (w : World) (hV : Valid n L) (hown : IOwn w g (.slice (some ⟨g, 0, none⟩) n n) L) (hgw : g ≤ w.heap.size) (hR : Rd w g B want.length (fun i => .int .i64 (want.getD i 0))) :
    Calls Tryd.prog 68 #[.int .i64 n, .slice (some ⟨g, 0, none⟩) n n, .int .i64 ((n - (r + 1) : Nat) : Int), .slice B want.length cB] w (CPost n g (n - (r + 1)) L (cntF n (okOf n want) (r + 1) (chOf L)) w) := by
  have HIH := Lib.hid ih
  have HV := Lib.hid hV
  have HR := Lib.hid hR
  have HO := Lib.hid hown
  obtain ⟨k, hkk⟩ : ∃ k, k = want.length := ⟨_, rfl⟩
  rw [← hkk] at HIH HR ⊢
  obtain ⟨a, ha⟩ : ∃ a, a = n - (r + 1) := ⟨_, rfl⟩
  have ha2 : n - r = a + 1 := by omega
  rw [ha2] at HIH
  have HA2 := Lib.hid ha2
  have hcf : cntF n (okOf n want) (r + 1) (chOf L) = sm (a + 1) (fun v => cntF n (okOf n want) r (upd (chOf L) a v)) := by rw [cntF, ha2, ← ha]
  rw [← ha, hcf]
  obtain ⟨S, hS⟩ : ∃ S : Nat → Nat, S = fun v => cntF n (okOf n want) r (upd (chOf L) a v) := ⟨_, rfl⟩
  rw [← hS]
  have hSb : ∀ v, S v ≤ 46656 := fun v => by
    rw [hS]
    refine Nat.le_trans (cntF_bound n hn want r _) ?_
    exact Nat.le_trans (Nat.pow_le_pow_right (by decide) (show r ≤ 6 by omega)) (by decide)
  have hsb : ∀ v, v ≤ 7 → sm v S ≤ 326592 := fun v hv => by
    have := sm_bound S 46656 v (fun i _ => hSb i)
    have : v * 46656 ≤ 7 * 46656 := Nat.mul_le_mul_right _ hv
    omega
  have HS := Lib.hid hS
  have HSB := Lib.hid hSb
  have HSM := Lib.hid hsb
  have hna : ¬ (a : Int) = (n : Int) := by omega
  have hnb : ((a : Int) == (n : Int)) = false := beq_eq_false_iff_ne.2 hna
  have han : a < n := by omega
  have han6 : a < 6 := by omega
  have hrn : r ≤ n := by omega
  clear ih hV hR hown hkk ha ha2 hcf hS hSb hsb hr
  go_enter Tryd.func68, Tryd.ntmps68
  go_wp2_with fail
  go_loopw [9, 10] (fun c v wr => ∃ (j : Nat) (M : List Int), j ≤ a + 1 ∧ v = .int .i64 j ∧ c = .int .i64 ((sm j S : Nat) : Int) ∧ IOwn wr g (.slice (some ⟨g, 0, none⟩) n n) M ∧ Valid n M ∧ (∀ i, i < a → M.getD i 0 = L.getD i 0) ∧ Below g w wr ∧ g ≤ wr.heap.size) (fun _ v _ => (a + 1) - (intOf v).toNat)
  case atStart => exact ⟨0, L, by omega, rfl, rfl, HO.out, HV.out, fun _ _ => rfl, Below.refl _ _, hgw⟩
  case round =>
    obtain ⟨j, M, hj, rfl, rfl, hO, hVM, hML, hB, hgr⟩ := hrel
    have s1 := HSM.out j (by omega)
    by_cases hlt : j < a + 1
    · have s2 := HSM.out (j + 1) (by omega)
      have hbj := HSB.out j
      have HSS := Lib.hid (show sm (j + 1) S = sm j S + S j from rfl)
      rw [HSS.out] at s2
      have cj := hO.cellAt hVM.1 han
      have fj := hO.frozenAt hVM.1 a
      obtain ⟨hO2, hg2⟩ := hO.set hVM.1 a (j : Int)
      have hV2 := hVM.set a j (by omega) han
      have hB2 : Below g w (wr.setCell ⟨g, a, none⟩ (.int .i64 j)) := hB.setCell (p := ⟨g, a, none⟩) (Nat.le_refl _) _
      have hgr2 : g ≤ (wr.setCell ⟨g, a, none⟩ (.int .i64 (j : Int))).heap.size := Nat.le_trans hgr (by simp [World.setCell])
      have hIH := HIH.out _ _ hV2 hO2 hgr2 (HR.out.below hB2)
      have hval : cntF n (okOf n want) r (chOf (M.set a (j : Int))) = S j := by
        rw [HS.out, chOf_set _ _ _ (by rw [hVM.1]; exact han)]
        refine cntF_congr n want r _ _ hrn fun i hi => ?_
        simp only [upd]
        by_cases e : i = a
        · rw [if_pos e, if_pos e]
        · rw [if_neg e, if_neg e, chOf, chOf, hML i (by have := HA2.out; omega)]
      rw [hval] at hIH
      have HI2 := Lib.hid hIH
      have HML := Lib.hid hML
      have HML1 := Lib.hid hVM.1
      clear hIH hval hO hVM hML hO2 hg2 hV2
      generalize M.getD a 0 = z at cj
      obtain ⟨x, hx⟩ : ∃ x, x = sm j S := ⟨_, rfl⟩
      obtain ⟨y, hy⟩ : ∃ y, y = S j := ⟨_, rfl⟩
      rw [← hx] at s1 s2 HSS ⊢
      rw [← hy] at hbj s2 HSS HI2
      clear hx hy
      go_wp2_with fail
      refine HI2.out.mono ?_
      rintro e w3 ⟨rfl, ⟨L', hO3, hV3, hL3⟩, hB3⟩
      have hBw3 := hB2.trans hB3
      have hgr3 := Nat.le_trans hgr2 hB3.size
      clear hB2 hB3 hgr2 hB cj fj
      go_wp2_with fail
      go_roundw
      case rel =>
        refine ⟨j + 1, L', by omega, by go_num, by rw [HSS.out]; go_num, hO3, hV3, fun i hi => ?_, hBw3, hgr3⟩
        rw [hL3 i (by omega), getD_set _ _ _ _ (by rw [HML1.out]; exact han), if_neg (by omega)]
        exact HML.out i hi
      case measure => simp [intOf]; omega
    · obtain rfl : j = a + 1 := by omega
      obtain ⟨x, hx⟩ : ∃ x, x = sm (a + 1) S := ⟨_, rfl⟩
      rw [← hx] at s1 ⊢
      have HX := Lib.hid hx
      clear hx
      go_wp2_with fail
      go_ret
      exact ⟨by rw [← HX.out]; rfl, ⟨M, hO, hVM, hML⟩, hB⟩
theorem count_any (n : Nat) (hn : n ≤ 6) (B : Option Addr) (cB : Nat) (want : List Int) (hk : want.length ≤ n) (g : Nat) : ∀ (r : Nat), r ≤ n → ∀ (L : List Int) (w : World), Valid n L → IOwn w g (.slice (some ⟨g, 0, none⟩) n n) L → g ≤ w.heap.size → Rd w g B want.length (fun i => .int .i64 (want.getD i 0)) →
      Calls Tryd.prog 68 #[.int .i64 n, .slice (some ⟨g, 0, none⟩) n n, .int .i64 ((n - r : Nat) : Int), .slice B want.length cB] w (CPost n g (n - r) L (cntF n (okOf n want) r (chOf L)) w)
  | 0, _, L, w, hV, hown, hgw, hR => by
    have := count_end n hn B cB want hk g L hV w hown hgw hR
    rw [Nat.sub_zero]
    exact this
  | r + 1, hr, L, w, hV, hown, hgw, hR => count_step n r hn hr B cB want g (fun L w => count_any n hn B cB want hk g r (by omega) L w) L w hV hown hgw hR
end Go.Proofs.YtibnikokgbfcdaaDoor

/- Walk: sample.Strata. -/
import Derived.Test.YtibnikokgbfcdaaDoorSamp1
namespace Go.Proofs.YtibnikokgbfcdaaDoor
open Go Go.RowKit Go.Shelf
attribute [local go_sem] Oper.semAt_some

def StrataPost (d : List UInt8) (L K : List Int) (m : Nat) (w : World) (e : Ending) (w' : World) : Prop :=
  ∃ v, e = .returned (.tuple #[v, .int .i64 0]) ∧ SRow w' w.heap.size v d L K (List.range m) ∧ Below w.heap.size w w'
theorem finRange_val (m : Nat) : (List.finRange m).map Fin.val = List.range m := by
  apply List.ext_getElem (by simp)
  intro i h1 h2
  simp
theorem own_form {w : World} {base : Nat} {e : TypeId} {size : Nat} {v : Value} {n : Nat} {xs : List Value} (h : w.ownsRow base e size v n xs) : ∃ A c, v = .slice A n c := by
  rcases h.2 with ⟨rfl, rfl⟩ | ⟨g, cap, cur, rfl, _⟩
  · exact ⟨_, _, rfl⟩
  · exact ⟨_, _, rfl⟩
/-- What lies behind the boxes of Strata, between two rounds. -/
def SInV (b : Nat) (d : List UInt8) (L K : List Int) (AL : Option Addr) (cL : Nat) (AK : Option Addr) (cK m : Nat) (pre : List Nat) (v : Value) (W : World) : Prop :=
  Blk W b 23 (dig d) ∧ Blk W (b + 1) 32 #[.slice AL m cL] ∧ Blk W (b + 1 + 1) 32 #[.slice AK m cK] ∧ Blk W (b + 1 + 1 + 1) 81 #[v] ∧ Blk W (b + 1 + 1 + 1 + 1) 25 #[.int .i64 0] ∧ SRow W (b + 5) v d L K pre
def SIn (b : Nat) (d : List UInt8) (L K : List Int) (AL : Option Addr) (cL : Nat) (AK : Option Addr) (cK m : Nat) (pre : List Nat) (W : World) : Prop := ∃ v, SInV b d L K AL cL AK cK m pre v W
section
variable {b : Nat} {d : List UInt8} {L K : List Int} {AL : Option Addr} {cL : Nat} {AK : Option Addr} {cK m : Nat} {pre : List Nat} {v v' : Value} {W Wq w3 : World}
theorem SInV.stay (h : SInV b d L K AL cL AK cK m pre v W) (hs : Stay 0 W Wq) : SInV b d L K AL cL AK cK m pre v Wq := by
  obtain ⟨b0, b1, b2, b3, b4, hr⟩ := h
  exact ⟨hs _ _ _ (Nat.zero_le _) b0, hs _ _ _ (Nat.zero_le _) b1, hs _ _ _ (Nat.zero_le _) b2, hs _ _ _ (Nat.zero_le _) b3, hs _ _ _ (Nat.zero_le _) b4, hr.stay (fun g cs t _ hb => hs g cs t (Nat.zero_le _) hb)⟩
/-- A round's end. -/
theorem SInV.step (h : SInV b d L K AL cL AK cK m pre v W) (hB : Below W.heap.size W Wq) {xs : List Value} {p : Nat} {A : Option Addr}
    (h1 : Wq.ownsRow (b + 5) 32 1 v pre.length xs) (h2 : ∀ (j q : Nat), pre[j]? = some q → ∃ A, xs[j]? = some (Value.slice A (cnt K q) (cnt K q)) ∧ Held Wq (b + 5) A (cnt K q) (strat d L q))
    (hp : Held Wq (b + 5) A (cnt K p) (strat d L p)) (ho : w3.ownsRow (b + 5) 32 1 v' (pre.length + 1) (xs ++ [Value.slice A (cnt K p) (cnt K p)])) (hg : Grew Wq w3 v v') :
    KeepsOthers W (w3.setCell ⟨b + 1 + 1 + 1, 0, none⟩ v') ∧ Below b W (w3.setCell ⟨b + 1 + 1 + 1, 0, none⟩ v') ∧ SInV b d L K AL cL AK cK m (pre ++ [p]) v' (w3.setCell ⟨b + 1 + 1 + 1, 0, none⟩ v') := by
  obtain ⟨b0, b1, b2, b3, b4, -⟩ := h
  have hne : ∀ k, k < b + 5 → some k ≠ v.ownBlock := fun k hk e => by have := (World.ownsRow.lt h1 k e.symm).1; omega
  have hrow := SRow.push h1 h2 hp ho hg
  have hbW : b + 5 ≤ W.heap.size := by have := b4.lt; omega
  refine ⟨?_, ?_, ?_⟩
  · refine (KeepsOthers.of_below hB).trans (KeepsOthers.trans (KeepsOthers.of_grownBy hg.1 fun j o hj ho' => ?_) (KeepsOthers.setCell _ _ _))
    rcases h1.2 with ⟨rfl, _⟩ | ⟨g, cap, cur, rfl, _, hh, _⟩
    · cases hj
    · obtain rfl : g = j := by simpa [Value.ownBlock] using hj
      rw [hh] at ho'
      obtain rfl := Option.some.inj ho'
      rfl
  · refine Below.setCell ?_ (p := ⟨b + 1 + 1 + 1, 0, none⟩) (by show b ≤ b + 1 + 1 + 1; omega) v'
    exact (hB.mono (by omega)).trans (hg.below (by have := hB.size; omega) fun k hk => by have := (World.ownsRow.lt h1 k hk).1; omega)
  · have up : ∀ (g : Nat) t cs, g < b + 5 → Blk W g t cs → Blk w3 g t cs := fun g t cs hlt hb => (hb.below hB hb.lt).grown hg.1 (hne g hlt)
    have far : ∀ (g : Nat) t cs, g ≠ b + 1 + 1 + 1 → Blk w3 g t cs → Blk (w3.setCell ⟨b + 1 + 1 + 1, 0, none⟩ v') g t cs := fun g t cs hne hb => hb.far (p := ⟨b + 1 + 1 + 1, 0, none⟩) hne _
    exact ⟨far _ _ _ (by omega) (up _ _ _ (by omega) b0), far _ _ _ (by omega) (up _ _ _ (by omega) b1), far _ _ _ (by omega) (up _ _ _ (by omega) b2), (up _ _ _ (by omega) b3).set 0 v', far _ _ _ (by omega) (up _ _ _ (by omega) b4), hrow.stay (Stay.far (p := ⟨b + 1 + 1 + 1, 0, none⟩) (by show b + 1 + 1 + 1 < b + 5; omega) _)⟩
theorem SIn.stay (h : SIn b d L K AL cL AK cK m pre W) (hs : Stay 0 W Wq) : SIn b d L K AL cL AK cK m pre Wq := let ⟨v, h⟩ := h; ⟨v, h.stay hs⟩
end
theorem SIn.own (b : Nat) (d : List UInt8) (L K : List Int) (AL : Option Addr) (cL : Nat) (AK : Option Addr) (cK m : Nat) : Own (fun (pre : List (Fin m)) W => SIn b d L K AL cL AK cK m (pre.map Fin.val) W) :=
  fun _ _ _ _ hs hg hr => hs.stay (Stay.of_kept hg hr)
set_option maxRecDepth 100000 in
set_option linter.unusedSimpArgs false in
set_option maxHeartbeats 4000000 in
theorem strata_good (d : List UInt8) (hd : d.length = 32) (L K : List Int) (m : Nat) (hm : m ≤ 64) (hs : ∀ i, i ≤ m → 0 ≤ sumTo L i ∧ sumTo L i ≤ 4096) (hv : ∀ i, i < m → 0 ≤ K.getD i 0 ∧ K.getD i 0 ≤ L.getD i 0)
    (AL AK : Option Addr) (cL cK : Nat) (w : World) (hRL : Rd w w.heap.size AL m (fun i => .int .i64 (L.getD i 0))) (hRK : Rd w w.heap.size AK m (fun i => .int .i64 (K.getD i 0))) (hL : Laid w) :
    Calls Tryd.prog 64 #[.agg (dig d), .slice AL m cL, .slice AK m cK] w (StrataPost d L K m w) := by
  have HS := Lib.hid hs
  have HV := Lib.hid hv
  have HRL := Lib.hid hRL
  have HRK := Lib.hid hRK
  have HL := Lib.hid hL
  clear hs hv hRL hRK hL
  refine (callsIn_wide (n := 5)).1 ?_
  refine callsIn_of_wp_marks Tryd.func64 rfl trivial ?_ rfl
  simp only [Tryd.ntmps64, List.size_toArray, List.length_cons, List.length_nil, Nat.reduceAdd, Nat.reduceSub, Array.replicate_succ, Array.replicate_zero, List.push_toArray, List.append_toArray, List.nil_append, List.cons_append]
  refine wpIn_wide.2 ?_
  have hX : ∃ W0, W0 = ((((w.alloc (.cells (dig d) 23)).alloc (.cells #[.slice AL m cL] 32)).alloc (.cells #[.slice AK m cK] 32)).alloc (.cells #[.slice none 0 0] 81)).alloc (.cells #[.int .i64 0] 25) := ⟨_, rfl⟩
  obtain ⟨W0, hW0⟩ := hX
  go_wp2_with fail
  rw [← hW0]
  have c0 : Blk W0 w.heap.size 23 (dig d) := by rw [hW0]; exact ((((Blk.new w _ _).alloc _).alloc _).alloc _).alloc _
  have c1 : Blk W0 (w.heap.size + 1) 32 #[.slice AL m cL] := by rw [hW0]; exact (((Blk.new' _ _ _ (by simp)).alloc _).alloc _).alloc _
  have c2 : Blk W0 (w.heap.size + 1 + 1) 32 #[.slice AK m cK] := by rw [hW0]; exact ((Blk.new' _ _ _ (by simp)).alloc _).alloc _
  have c3 : Blk W0 (w.heap.size + 1 + 1 + 1) 81 #[.slice none 0 0] := by rw [hW0]; exact (Blk.new' _ _ _ (by simp)).alloc _
  have c4 : Blk W0 (w.heap.size + 1 + 1 + 1 + 1) 25 #[.int .i64 0] := by rw [hW0]; exact Blk.new' _ _ _ (by simp)
  have hsz : W0.heap.size = w.heap.size + 5 := by rw [hW0]; simp
  have hB0 : Below w.heap.size w W0 := by
    rw [hW0]
    exact (((((Below.refl _ w).alloc (Nat.le_refl _) _).alloc (by simp) _).alloc (by simp; omega) _).alloc (by simp; omega) _).alloc (by simp; omega) _
  clear hW0
  have hk1 : W0.cell? ⟨w.heap.size + 1, 0, none⟩ = some (.slice AL m cL) := c1.cell 0
  have hk2 : W0.cell? ⟨w.heap.size + 1 + 1, 0, none⟩ = some (.slice AK m cK) := c2.cell 0
  have HRL0 := Lib.hid (HRL.out.below hB0)
  have HRK0 := Lib.hid (HRK.out.below hB0)
  have HC := Lib.hid (And.intro c0 (And.intro c3 (And.intro c4 (And.intro c1 c2))))
  clear c0 c1 c2 c3 c4
  go_loopw [8, 26] (fun left i wr => ∃ k : Nat, k ≤ m ∧ i = .int .i64 k ∧ left = .int .i64 (4096 - sumTo L k) ∧ W0 = wr) (fun _ i _ => m - (intOf i).toNat)
  case atStart => exact ⟨0, by omega, rfl, rfl, rfl⟩
  case round =>
    obtain ⟨k, hk, rfl, rfl, rfl⟩ := hrel
    by_cases hlt : k < m
    · obtain ⟨b, off, rfl, _, hc⟩ := HRL0.out.at_ (k := k) hlt
      obtain ⟨b', off', rfl, _, hc'⟩ := HRK0.out.at_ (k := k) hlt
      have s1 := HS.out k hk
      have s2 := HS.out (k + 1) hlt
      have s3 := HV.out k hlt
      rw [sumTo] at s2
      obtain ⟨x, hx⟩ : ∃ x, x = L.getD k 0 := ⟨_, rfl⟩
      obtain ⟨y, hy⟩ : ∃ y, y = K.getD k 0 := ⟨_, rfl⟩
      obtain ⟨s, hse⟩ : ∃ s, s = sumTo L k := ⟨_, rfl⟩
      rw [← hx] at hc s2 s3
      rw [← hy] at hc' s3
      rw [← hse] at s1 s2 ⊢
      have hnx : sumTo L (k + 1) = s + x := by rw [sumTo, hse, hx]
      have HNX := Lib.hid hnx
      have n1 : ¬ y < 0 := by omega
      have n2 : ¬ x < y := by omega
      have n3 : ¬ 4096 - s < x := by omega
      clear hx hy hse hnx
      go_wp2_with fail
      go_roundw
      case rel => exact ⟨k + 1, by omega, by go_num, by rw [HNX.out]; congr 1; omega, trivial⟩
      case measure => simp [intOf]; omega
    · have hkm : m = k := by omega
      subst hkm
      go_wp2_with fail
      refine (parts_any (.slice AL m cL) rfl AL m cL rfl W0).mono ?_
      rintro e W1 ⟨rfl, hW1⟩
      have hB1 : Below W0.heap.size W0 W1 := by rw [hW1]; exact (Below.refl _ W0).alloc (Nat.le_refl _) _
      have c5 : Blk W1 W0.heap.size 32 #[.slice AL m cL] := by rw [hW1]; exact Blk.new _ _ _
      have hBw : Below w.heap.size w W1 := hB0.trans (hB1.mono hB0.size)
      have hI0 : SIn w.heap.size d L K AL cL AK cK m [] W1 := ⟨.slice none 0 0, HC.out.1.below hB1 HC.out.1.lt, HC.out.2.2.2.1.below hB1 HC.out.2.2.2.1.lt, HC.out.2.2.2.2.below hB1 HC.out.2.2.2.2.lt, HC.out.2.1.below hB1 HC.out.2.1.lt, HC.out.2.2.1.below hB1 HC.out.2.2.1.lt, SRow.nil _ _ _ _ _⟩
      have hRL1 := HRL.out.below hBw
      have hsz1 := hBw.size
      rw [hsz] at c5
      clear hW1 HC hk1 hk2 HRL0 HRK0
      go_wp2_with fail
      refine (wpIn_wide (n := 5)).1 ?_
      refine wpIn_rangeFunc_ownF rfl (by omega) (gf := 120) (lb := #[.pointer (some ⟨w.heap.size + 5, 0, none⟩)]) rfl trivial (enters_of Tryd.func120 (by kernel_rfl) rfl)
        (parts_stops 4 (w.heap.size + 5) w.heap.size AL cL m L HS.out hm _ W1 hsz1 c5 hRL1) belowK_t (belowK_b hsz1) (Below.refl _ _) (fun _ => rfl)
        (fun pre W => SIn w.heap.size d L K AL cL AK cK m (pre.map Fin.val) W ∧ Below w.heap.size w W) (fun _ _ _ => False)
        (OwnFrom.and (Own.from (SIn.own w.heap.size d L K AL cL AK cK m) _) (ownFrom_below (Nat.le_refl _) hsz1)) (fun _ _ _ _ _ hs _ _ => hs)
        ⟨hI0, hBw⟩
        ?a1 ?assign ?body ?done ?stop
      case assign =>
        intro l x W Kk hK
        gi_wp2
        exact hK
      case body =>
        rintro l pre x W ⟨hI, hB⟩ hlen
        obtain ⟨v, hIV⟩ := hI
        have HIV := Lib.hid hIV
        obtain ⟨b0, b1, b2, b3, b4, hrow⟩ := hIV
        gi_wp2_with fail
        obtain ⟨p, hp⟩ := x
        obtain ⟨bl, ol, rfl, _, hcl⟩ := (HRL.out.below hB).at_ (k := p) hp
        obtain ⟨bk, ok, rfl, _, hck⟩ := (HRK.out.below hB).at_ (k := p) hp
        have s1 := HS.out p (by omega)
        have s2 := HS.out (p + 1) hp
        have s3 := HV.out p hp
        rw [sumTo] at s2
        obtain ⟨nn, hnn⟩ : ∃ nn, nn = (L.getD p 0).toNat := ⟨_, rfl⟩
        obtain ⟨kk, hkk⟩ : ∃ kk, kk = cnt K p := ⟨_, rfl⟩
        have hkk' : kk = (K.getD p 0).toNat := hkk
        rw [show L.getD p 0 = (nn : Int) by omega] at hcl s2 s3
        rw [show K.getD p 0 = (kk : Int) by omega] at hck s3
        have hkn : kk ≤ nn := by omega
        have hn4 : nn ≤ 4096 := by omega
        have HNN := Lib.hid hnn
        have HKK := Lib.hid hkk
        clear hnn hkk hkk' s2 s3
        have e1 : W.cell? ⟨w.heap.size + 1, 0, none⟩ = some (.slice (some ⟨bl, ol, none⟩) m cL) := b1.cell 0
        have e2 : W.cell? ⟨w.heap.size + 1 + 1, 0, none⟩ = some (.slice (some ⟨bk, ok, none⟩) m cK) := b2.cell 0
        have hLW := HL.out.below hB
        refine wpIn_region_held (S := fun W' => Below W.heap.size W W') (by kernel_rfl) (by kernel_rfl) (fun ⟨_, _, h⟩ => h) (Below.refl _ _).drew (fun hS => ?_)
        refine wpAnyH_take (i := 0) (v := .agg (dig d)) rfl (by kernel_rfl) (by kernel_rfl) (by kernel_rfl) (fun _ _ _ h => h) (yields_dig (by rfl) _ rfl _ rfl d hd (fun W' hS' => b0.below hS' b0.lt)) hS ?_
        simp only [Act.put, List.setIfInBounds_toArray, List.set_cons_zero, List.set_cons_succ]
        refine wpAnyH_take (i := 1) (v := .int .i64 p) rfl (by kernel_rfl) (by kernel_rfl) (by kernel_rfl) (fun _ _ _ h => h) (Or.inl ⟨by rfl, fun W' hS' => by go_simp⟩) hS ?_
        simp only [Act.put, List.setIfInBounds_toArray, List.set_cons_zero, List.set_cons_succ]
        refine wpAnyH_take (i := 4) (v := .slice (some ⟨bl, ol, none⟩) m cL) rfl (by kernel_rfl) (by kernel_rfl) (by kernel_rfl) (fun _ _ _ h => h) (Or.inl ⟨by rfl, fun W' hS' => by have := (hS'.cell (p := ⟨w.heap.size + 1, 0, none⟩) b1.lt).trans e1; go_simp⟩) hS ?_
        simp only [Act.put, List.setIfInBounds_toArray, List.set_cons_zero, List.set_cons_succ]
        refine wpAnyH_take (i := 5) (v := .int .i64 p) rfl (by kernel_rfl) (by kernel_rfl) (by kernel_rfl) (fun _ _ _ h => h) (Or.inl ⟨by rfl, fun W' hS' => by go_simp⟩) hS ?_
        simp only [Act.put, List.setIfInBounds_toArray, List.set_cons_zero, List.set_cons_succ]
        refine wpAnyH_take (i := 6) (v := .pointer (some ⟨bl, ol + p, none⟩)) rfl (by kernel_rfl) (by kernel_rfl) (by kernel_rfl) (fun _ _ _ h => h) (Or.inl ⟨by rfl, fun W' hS' => by go_simp⟩) hS ?_
        simp only [Act.put, List.setIfInBounds_toArray, List.set_cons_zero, List.set_cons_succ]
        refine wpAnyH_take (i := 7) (v := .int .i64 nn) rfl (by kernel_rfl) (by kernel_rfl) (by kernel_rfl) (fun _ _ _ h => h) (Or.inl ⟨by rfl, fun W' hS' => by have := (hS'.cell (p := ⟨bl, ol + p, none⟩) (World.block_lt_of_cell? W _ hcl)).trans hcl; go_simp⟩) hS ?_
        simp only [Act.put, List.setIfInBounds_toArray, List.set_cons_zero, List.set_cons_succ]
        refine wpAnyH_take (i := 8) (v := .slice (some ⟨bk, ok, none⟩) m cK) rfl (by kernel_rfl) (by kernel_rfl) (by kernel_rfl) (fun _ _ _ h => h) (Or.inl ⟨by rfl, fun W' hS' => by have := (hS'.cell (p := ⟨w.heap.size + 1 + 1, 0, none⟩) b2.lt).trans e2; go_simp⟩) hS ?_
        simp only [Act.put, List.setIfInBounds_toArray, List.set_cons_zero, List.set_cons_succ]
        refine wpAnyH_take (i := 9) (v := .int .i64 p) rfl (by kernel_rfl) (by kernel_rfl) (by kernel_rfl) (fun _ _ _ h => h) (Or.inl ⟨by rfl, fun W' hS' => by go_simp⟩) hS ?_
        simp only [Act.put, List.setIfInBounds_toArray, List.set_cons_zero, List.set_cons_succ]
        refine wpAnyH_take (i := 10) (v := .pointer (some ⟨bk, ok + p, none⟩)) rfl (by kernel_rfl) (by kernel_rfl) (by kernel_rfl) (fun _ _ _ h => h) (Or.inl ⟨by rfl, fun W' hS' => by go_simp⟩) hS ?_
        simp only [Act.put, List.setIfInBounds_toArray, List.set_cons_zero, List.set_cons_succ]
        refine wpAnyH_take (i := 11) (v := .int .i64 kk) rfl (by kernel_rfl) (by kernel_rfl) (by kernel_rfl) (fun _ _ _ h => h) (Or.inl ⟨by rfl, fun W' hS' => by have := (hS'.cell (p := ⟨bk, ok + p, none⟩) (World.block_lt_of_cell? W _ hck)).trans hck; go_simp⟩) hS ?_
        simp only [Act.put, List.setIfInBounds_toArray, List.set_cons_zero, List.set_cons_succ]
        refine wpAnyH_ready (rs := [2]) (by kernel_rfl) (by simp) ?_
        refine AllReadyH.cons rfl (fun Kq hKq => ?_) AllReadyH.nil
        go_simp
        have hg1 : (W.alloc (.cells #[.int .i64 p] 3)).drew.cell? ⟨W.heap.size, 0, none⟩ = some (.int .i64 p) := ((Blk.new W 3 #[.int .i64 p]).drew).cell 0
        have hS1 : Below W.heap.size W (W.alloc (.cells #[.int .i64 p] 3)).drew := ((Below.refl _ W).alloc (Nat.le_refl _) _).drew
        refine hKq.out _ _ hS1 (fun _ => ?_)
        clear hKq Kq hS
        generalize (W.alloc (.cells #[.int .i64 p] 3)).drew = Wa at hg1 hS1 ⊢
        refine wpAnyH_ready (rs := [3]) (by kernel_rfl) (by simp) ?_
        refine AllReadyH.cons rfl (fun Kq hKq => ?_) AllReadyH.nil
        go_simp
        refine (stagged_any ⟨#[112, 97, 114, 116]⟩ (by decide) d hd p (by omega) W.heap.size 0 1 Wa (hLW.below hS1) hg1).mono ?_
        rintro e Wb ⟨rfl, hb2⟩
        have hS2 : Below W.heap.size W Wb := hS1.trans (hb2.mono hS1.size)
        refine hKq.out _ _ hS2 (fun _ => ?_)
        clear hKq Kq hS1 hg1 hb2
        obtain ⟨D, hDe⟩ : ∃ D, D = partDig d p := ⟨_, rfl⟩
        have hDl : D.length = 32 := by rw [hDe]; exact tagged_length _ _
        rw [show tagged (⟨#[112, 97, 114, 116]⟩ : ByteArray).data.toList (partText d p) = D from hDe.symm]
        have HDE := Lib.hid hDe
        clear hDe
        refine wpAnyH_ready (rs := [12]) (by kernel_rfl) (by simp) ?_
        refine AllReadyH.cons rfl (fun Kq hKq => ?_) AllReadyH.nil
        go_simp
        refine (sdraw_good D hDl nn kk hkn hn4 Wb (hLW.below hS2)).mono ?_
        rintro e Wc ⟨A, rfl, hheld, hb3⟩
        have hS3 : Below W.heap.size W Wc := hS2.trans (hb3.mono hS2.size)
        refine hKq.out _ _ hS3 (fun _ => ?_)
        clear hKq Kq
        have hheld' : Held Wc W.heap.size A kk (orderOf D nn) := by
          rcases hheld with h | ⟨g, cs, a1, a2, a3⟩
          · exact .inl h
          · exact .inr ⟨g, cs, a1, Nat.le_trans hS2.size a2, a3⟩
        clear hheld hb3 hS2
        refine wpAnyH_take (i := 13) (v := (.tuple #[.slice A kk kk, .int .i64 0])) rfl (by kernel_rfl) (by kernel_rfl) (by kernel_rfl) (fun _ _ _ h => h) (Or.inl ⟨by rfl, fun W' hS' => by go_simp⟩) hS3 ?_
        simp only [Act.put, List.setIfInBounds_toArray, List.set_cons_zero, List.set_cons_succ]
        refine wpAnyH_take (i := 14) (v := .slice A kk kk) rfl (by kernel_rfl) (by kernel_rfl) (by kernel_rfl) (fun _ _ _ h => h) (Or.inl ⟨by rfl, fun W' hS' => by go_simp⟩) hS3 ?_
        simp only [Act.put, List.setIfInBounds_toArray, List.set_cons_zero, List.set_cons_succ]
        refine wpAnyH_take (i := 15) (v := .int .i64 0) rfl (by kernel_rfl) (by kernel_rfl) (by kernel_rfl) (fun _ _ _ h => h) (Or.inl ⟨by rfl, fun W' hS' => by go_simp⟩) hS3 ?_
        simp only [Act.put, List.setIfInBounds_toArray, List.set_cons_zero, List.set_cons_succ]
        refine wpAnyH_take (i := 16) (v := .slice A kk kk) rfl (by kernel_rfl) (by kernel_rfl) (by kernel_rfl) (fun _ _ _ h => h) (Or.inl ⟨by rfl, fun W' hS' => by go_simp⟩) hS3 ?_
        simp only [Act.put, List.setIfInBounds_toArray, List.set_cons_zero, List.set_cons_succ]
        refine wpAnyH_take (i := 17) (v := .int .i64 0) rfl (by kernel_rfl) (by kernel_rfl) (by kernel_rfl) (fun _ _ _ h => h) (Or.inl ⟨by rfl, fun W' hS' => by go_simp⟩) hS3 ?_
        simp only [Act.put, List.setIfInBounds_toArray, List.set_cons_zero, List.set_cons_succ]
        refine wpAnyH_done (by kernel_rfl) ?_ _
        gi_wp2_with fail
        have hM0 : Mixed W Wc (A) kk (orderOf D nn) (sumTo L p) 0 := Mixed.start hS3 hheld'
        have HM0 := Lib.hid hM0
        clear hM0 hheld' hS3
        obtain ⟨o, ho⟩ : ∃ o, o = orderOf D nn := ⟨_, rfl⟩
        obtain ⟨s, hse⟩ : ∃ s, s = sumTo L p := ⟨_, rfl⟩
        have hor : ∀ i, 0 ≤ o.getD i 0 ∧ o.getD i 0 ≤ nn := fun i => by rw [ho]; exact orderOf_range D nn i
        have hol : o.length = nn := by rw [ho]; exact orderOf_length D nn
        rw [← ho, ← hse] at HM0
        rw [← hse] at s1 ⊢
        have HO := Lib.hid ho
        have HSE := Lib.hid hse
        clear ho hse
        gi_loopw [78] (fun z wr => ∃ j : Nat, j ≤ kk ∧ z = .int .i64 j ∧ Mixed W wr A kk o s j) (fun z _ => kk - (intOf z).toNat)
        case atStart => exact ⟨0, by omega, rfl, HM0.out⟩
        case round =>
          obtain ⟨j, hj, rfl, hM⟩ := hrel
          by_cases hlt : j < kk
          · obtain ⟨g, rfl, hc, hf, hM'⟩ := hM.at_ hlt
            obtain ⟨x, hx⟩ : ∃ x, x = o.getD j 0 := ⟨_, rfl⟩
            have hxr := hor j
            rw [← hx] at hc hM' hxr
            have HM' := Lib.hid hM'
            clear hM hM' hx hor
            gi_wp2_with fail
            go_roundw
            case rel => exact ⟨j + 1, by omega, by go_num, HM'.out⟩
            case measure => simp [intOf]; omega
          · have hjk : j = kk := by omega
            subst hjk
            have hBr := hM.1
            have hheld : Held wr (w.heap.size + 5) A j (o.map (· + s)) := hM.fin (by omega) (by have := b4.lt; omega)
            obtain ⟨xs, h1, h2⟩ := hrow.stay (Stay.of_below hBr)
            have e3 : wr.cell? ⟨w.heap.size + 1 + 1 + 1, 0, none⟩ = some v := (b3.below hBr b3.lt).cell 0
            iterate 16 (first | go_values | gi_guarded | gi_step | gi_upon)
            refine wpIn_region_list_of (L := [_, _, _, _, _]) (by kernel_rfl) (fun ⟨_, _, h⟩ => h) ?_
            have hPL : (pre.map Fin.val).length < m := by rw [List.length_map]; exact hlen
            have hBq : Below W.heap.size W (wr.alloc (.cells #[.slice A j j] 32)) := hBr.alloc hBr.size _
            have h1q := World.ownsRow.alloc h1 (.cells #[.slice A j j] 32)
            have hwb : w.heap.size + 5 ≤ wr.heap.size := by have := b4.lt; have := hBr.size; omega
            go_wp2_with (at_builtin; refine app_slice rfl _ _ rfl (w.heap.size + 5) v _ xs rfl h1q (.slice A j j) rfl (Blk.new _ _ _) rfl (by omega) (by simp only [World.size_alloc]; omega) ?_; intro v2 w2 hown2 hg2; have e4 : ∃ u, w2.cell? ⟨w.heap.size + 1 + 1 + 1, 0, none⟩ = some u := ⟨_, (((b3.below hBq b3.lt).grown hg2.1 (fun e => by have := (World.ownsRow.lt h1 _ e.symm).1; omega)).cell 0)⟩; obtain ⟨u, e4⟩ := e4; obtain ⟨A2, c2, rfl⟩ := own_form hown2; have f4 : w2.frozen? ⟨w.heap.size + 1 + 1 + 1, 0, none⟩ = false := ((b3.below hBq b3.lt).grown hg2.1 (fun e => by have := (World.ownsRow.lt h1 _ e.symm).1; omega)).frozen 0)
            have hjc := HKK.out
            subst hjc
            have hstr : o.map (· + s) = strat d L p := by rw [strat, partOrd, HO.out, HSE.out, HDE.out, HNN.out]
            have hBa : Below wr.heap.size wr (wr.alloc (.cells #[.slice A (cnt K p) (cnt K p)] 32)) := (Below.refl _ wr).alloc (Nat.le_refl _) _
            have hst := HIV.out.step hBq h1q (fun j q hq => by obtain ⟨B, x1, x2⟩ := h2 j q hq; exact ⟨B, x1, x2.below hBa⟩) (p := p) (A := A) (by rw [← hstr]; exact hheld.below hBa) hown2 hg2
            rw [List.length_map] at hst
            exact ⟨hst.1, hst.2.1, ⟨_, by rw [List.map_append]; exact hst.2.2⟩, hB.trans hst.2.1⟩
      case done =>
        rintro D ys W hD rfl ⟨⟨v, b0, b1, b2, b3, b4, hrow⟩, hB⟩ hK
        rw [finRange_val] at hrow
        obtain ⟨A2, c2, rfl⟩ : ∃ A c, v = .slice A m c := by
          obtain ⟨xs, h1, -⟩ := hrow
          have := own_form h1
          rwa [List.length_range] at this
        have e3 : W.cell? ⟨w.heap.size + 1 + 1 + 1, 0, none⟩ = some (.slice A2 m c2) := b3.cell 0
        have e4 : W.cell? ⟨w.heap.size + 1 + 1 + 1 + 1, 0, none⟩ = some (.int .i64 0) := b4.cell 0
        have f3 := b3.frozen 0
        have f4 := b4.frozen 0
        have hc := two_set W _ _ (by omega) e3 e4 (.slice A2 m c2) (.int .i64 0)
        go_wp2
        have hK' := ((KeepsOthers.setCell W ⟨w.heap.size + 1 + 1 + 1, 0, none⟩ (.slice A2 m c2)).trans (KeepsOthers.setCell _ ⟨w.heap.size + 1 + 1 + 1 + 1, 0, none⟩ (.int .i64 0))).same D _ hK rfl
        refine ⟨by simp, .inl ⟨_, _, rfl, run_takeDeferred hK', ?_⟩⟩
        have hgp := grownBy_putObj' ((W.setCell ⟨w.heap.size + 1 + 1 + 1, 0, none⟩ (.slice A2 m c2)).setCell ⟨w.heap.size + 1 + 1 + 1 + 1, 0, none⟩ (.int .i64 0)) D (.deferred none)
        have hrr : ∀ r, some D = some r → ∃ o : Obj, ((W.setCell ⟨w.heap.size + 1 + 1 + 1, 0, none⟩ (.slice A2 m c2)).setCell ⟨w.heap.size + 1 + 1 + 1 + 1, 0, none⟩ (.int .i64 0)).heap[r]? = some o ∧ o.isCells = false := fun r e => by cases e; exact ⟨_, hK', rfl⟩
        have hc5 := cell_kept hc.1 hgp hrr
        have hc6 := cell_kept hc.2 hgp hrr
        refine ⟨.tuple #[.slice A2 m c2, .int .i64 0], ?_, ⟨_, rfl, ?_, ?_⟩⟩
        · simp [results, Tryd.f64, go_sem, hc5, hc6]
        · exact (((hrow.stay (Stay.far (p := ⟨w.heap.size + 1 + 1 + 1, 0, none⟩) (by show w.heap.size + 1 + 1 + 1 < w.heap.size + 5; omega) _)).stay (Stay.far (p := ⟨w.heap.size + 1 + 1 + 1 + 1, 0, none⟩) (by show w.heap.size + 1 + 1 + 1 + 1 < w.heap.size + 5; omega) _)).stay (Stay.of_kept hgp hrr)).weaken (by omega)
        · exact ((hB.setCell (p := ⟨w.heap.size + 1 + 1 + 1, 0, none⟩) (by show w.heap.size ≤ w.heap.size + 1 + 1 + 1; omega) _).setCell (p := ⟨w.heap.size + 1 + 1 + 1 + 1, 0, none⟩) (by show w.heap.size ≤ w.heap.size + 1 + 1 + 1 + 1; omega) _).trans (belowK_b (w := w) (Nat.le_refl _) _ D _ _ (by omega) hK' rfl rfl)
      case stop =>
        rintro D c pre W hD hpre hf hK
        exact hf.elim
end Go.Proofs.YtibnikokgbfcdaaDoor

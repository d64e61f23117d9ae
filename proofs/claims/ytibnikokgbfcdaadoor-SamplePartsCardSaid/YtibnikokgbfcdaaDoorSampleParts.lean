/- The law podiumlaw55.SampleParts: for all digests and parts she returns true. -/
import Derived.Test.YtibnikokgbfcdaaDoorSamp3
namespace Go.Proofs.YtibnikokgbfcdaaDoor
open Go Go.RowKit

theorem icells_range (xs : List Int) : (List.range (xs.length * 1)).map (fun k => Value.int .i64 (xs.getD k 0)) = icells xs := by
  apply List.ext_getElem (by simp [icells])
  intro i h1 h2
  simp [icells, List.getD_eq_getElem?_getD, show i < xs.length by simpa using h1]
section
variable {ops : Array Oper} {rest : List Oper} {o : Oper} {a : Act} {Q : Exit → Act → World → Prop}
theorem app_ints (hgd : o.guard = none) (s x : Operand) (ho : o.op = .call { callee := .builtin .append, args := #[s, x], argTypes := #[32, 32] })
    (base : Nat) {w : World} (v : Value) (l : List Int) (hs : a.eval s = v) (hown : IOwn w base v l) (xs : List Int) {B : Nat} {A : Option Addr} {n c : Nat} (hn : n = xs.length) (hR : Rd w B A n (fun k => .int .i64 (xs.getD k 0)))
    (hx : a.eval x = .slice A n c) (h47 : l.length + n ≤ 1000000000000) (hbase : base ≤ w.heap.size)
    (h : ∀ v' w', IOwn w' base v' (l ++ xs) → Grew w w' v v' → wpList Tryd.prog ops Q rest (a.put o.dst v') w') : wpList Tryd.prog ops Q (o :: rest) a w := by
  subst hn
  have hsrc := src_rd (P := Tryd.prog) w (size := 1) (tx := 32) (n := xs.length) (c := c) Tryd.underlying32 (by rw [Nat.mul_one]; exact hR) (by omega) (fun k _ => rfl)
  rw [icells_range] at hsrc
  exact wpList_append_src w hgd s x 32 32 ho base 3 iInfo (.int .i64 0) 1 8 Tryd.underlying32 iInfo_eq iInfo_zero iInfo_size iInfo_bytes rfl v l.length (icells l) hs hown _ xs.length (icells xs) hx hsrc
    (by simp only [maxLen]; omega) (by omega) hbase fun v' w' h1 h2 => h v' w' (by
      show World.ownsRow w' base 3 1 v' (l ++ xs).length (icells (l ++ xs))
      rw [icells_append, List.length_append]; exact h1) h2
end
theorem sumTo_set (L : List Int) (j : Nat) (x : Int) (hj : j < L.length) : ∀ i, sumTo (L.set j x) i = sumTo L i + if j < i then x - L.getD j 0 else 0
  | 0 => by simp [sumTo]
  | i + 1 => by
    rw [sumTo, sumTo, sumTo_set L j x hj i, getD_set _ _ _ _ hj]
    by_cases e : i = j
    · subst e
      rw [if_pos rfl, if_neg (by omega), if_pos (by omega)]
      omega
    · rw [if_neg e]
      by_cases h : j < i
      · rw [if_pos h, if_pos (by omega)]
        omega
      · rw [if_neg h, if_neg (by omega)]
        omega
theorem IntL.set {L : List Int} (h : IntL L) (j : Nat) (x : Int) (hj : j < L.length) (hx : -9223372036854775808 ≤ x ∧ x < 9223372036854775808) : IntL (L.set j x) := fun k => by
  rw [getD_set _ _ _ _ hj]
  by_cases e : k = j
  · rw [if_pos e]; exact hx
  · rw [if_neg e]; exact h k
theorem strat_get (d : List UInt8) (L : List Int) (i p : Nat) (h : p < (L.getD i 0).toNat) : (strat d L i).getD p 0 = (orderOf (partDig d i) (L.getD i 0).toNat).getD p 0 + sumTo L i := by
  simp [strat, partOrd, List.getD_eq_getElem?_getD, show p < (orderOf (partDig d i) (L[i]?.getD 0).toNat).length by rw [orderOf_length]; simpa [List.getD_eq_getElem?_getD] using h]


set_option maxRecDepth 100000 in
set_option linter.unusedSimpArgs false in
set_option maxHeartbeats 8000000 in
theorem sampleParts_any (d : List UInt8) (hd : d.length = 32) (AL : Option Addr) (L : List Int) (cL : Nat) (hcL : L.length ≤ cL) (hcL2 : cL ≤ 9223372036854775807) (hIL : IntL L)
    (AK : Option Addr) (K : List Int) (cK : Nat) (hcK : K.length ≤ cK) (hcK2 : cK ≤ 9223372036854775807) (hIK : IntL K) (at_ : Int) (hat : 0 ≤ at_ ∧ at_ < 256) (size many : Int) (w : World) (hL : Laid w)
    (hRL : Rd w w.heap.size AL L.length (fun i => .int .i64 (L.getD i 0))) (hRK : Rd w w.heap.size AK K.length (fun i => .int .i64 (K.getD i 0))) :
    Calls Tryd.prog 25 #[.agg (dig d), .slice AL L.length cL, .slice AK K.length cK, .int .u8 at_, .int .i64 size, .int .i64 many] w (Ret (.bool true) w) := by
  have hll : L.length ≤ 9223372036854775807 := by omega
  have hlk : K.length ≤ 9223372036854775807 := by omega
  have HS := Lib.hid (fun W h => sane55_ok W h)
  have HF := Lib.hid (fun W h => r55Few_any 0 AL AK L.length K.length cL cK L hll hlk W h)
  have HA := Lib.hid (fun W hW => strata_all d hd AL L cL hll hIL AK K cK hlk hIK W hW)
  have HIL := Lib.hid hIL
  have HIK := Lib.hid hIK
  have HL := Lib.hid hL
  have HRL := Lib.hid hRL
  have HRK := Lib.hid hRK
  obtain ⟨a, rfl⟩ : ∃ a : Nat, at_ = a := ⟨at_.toNat, by omega⟩
  obtain ⟨m, hm⟩ : ∃ m, m = L.length := ⟨_, rfl⟩
  obtain ⟨n, hn⟩ : ∃ n, n = K.length := ⟨_, rfl⟩
  rw [← hm] at HF HA HRL ⊢
  rw [← hn] at HF HA HRK ⊢
  have hml : m ≤ 9223372036854775807 := by omega
  have hnl : n ≤ 9223372036854775807 := by omega
  have HM := Lib.hid hm
  have HN := Lib.hid hn
  clear hm hn hll hlk hcL hcL2 hcK hcK2 hIL hIK hL hRL hRK
  go_enter Tryd.func25, Tryd.ntmps25
  go_wp2_with fail
  have hD0 : Blk (w.alloc (.cells (dig d) 23)) w.heap.size 23 (dig d) := Blk.new _ _ _
  have hB0 : Below w.heap.size w (w.alloc (.cells (dig d) 23)) := (Below.refl _ w).alloc (Nat.le_refl _) _
  generalize w.alloc (.cells (dig d) 23) = w0 at hD0 hB0 ⊢
  refine (HS.out _ (HL.out.below hB0)).mono ?_
  rintro e w1 ⟨rfl, hb1⟩
  have hD1 := hD0.below hb1 hD0.lt
  have hB1 := hB0.trans (hb1.mono hB0.size)
  clear hD0 hB0 hb1
  go_wp2_with fail
  refine (HF.out _ ((HRL.out.below hB1).more hB1.size)).mono ?_
  rintro e w2 ⟨⟨b, rfl⟩, rfl⟩
  cases b
  · go_wp2_with fail
    go_ret
    exact ⟨rfl, hB1⟩
  by_cases hm0 : m = 0
  · subst hm0
    go_wp2_with fail
    go_ret
    exact ⟨rfl, hB1⟩
  have hm0' : ¬ (m : Int) = 0 := by omega
  go_wp2_with (refine load_dig rfl _ rfl d hd hD1 rfl ?_)
  refine (HA.out _ (HL.out.below hB1) ((HRL.out.below hB1).more hB1.size) ((HRK.out.below hB1).more hB1.size)).mono ?_
  rintro e w2 ⟨v2, x2, rfl, hv2, hb2⟩
  have hD2 := hD1.below hb2 hD1.lt
  have hB2 := hB1.trans (hb2.mono hB1.size)
  clear hD1 hB1 hb2
  rcases hv2 with ⟨hok, rfl, hv2⟩ | ⟨hno, rfl, hx2⟩
  rotate_left
  · have hxx : ¬ x2 = 0 := by rw [hx2]; split <;> decide
    clear hx2 hno
    go_wp2_with fail
    go_ret
    exact ⟨rfl, hB2⟩
  rw [← HM.out] at hv2
  have hnm : n = m := by rw [HN.out, HM.out]; exact hok.2.1
  subst hnm
  obtain ⟨m64, -, hbnd⟩ := hok
  rw [← HM.out] at m64 hbnd
  have hsr := sumTo_range L n (fun i hi => ⟨by have := hbnd i hi; omega, (hbnd i hi).2.2⟩)
  have HBND := Lib.hid hbnd
  have HSR := Lib.hid hsr
  obtain ⟨A2, c2, rfl, f, hf, hg⟩ := hv2
  have HFR := Lib.hid hf
  have HG := Lib.hid hg
  clear hbnd hsr hf hg
  have hD2s := hD2.lt
  go_wp2_with fail
  go_loopw [15, 16] (fun s i wr => ∃ k : Nat, k ≤ n ∧ i = .int .i64 k ∧ s = .int .i64 (sumTo L k) ∧ Below w2.heap.size w2 wr) (fun _ i _ => n - (intOf i).toNat)
  case atStart => exact ⟨0, by omega, rfl, rfl, Below.refl _ _⟩
  case round =>
    obtain ⟨i, hi, rfl, rfl, hBr⟩ := hrel
    by_cases hlt : i < n
    · have hBw : Below w.heap.size w wr := hB2.trans (hBr.mono hB2.size)
      have hDr := hD2.below hBr hD2s
      have hR0 : RdB wr (w.heap.size + 1) (some ⟨w.heap.size, 0, none⟩) d := Rd.of_blk hDr (Nat.lt_succ_self _) fun k hk => by rw [Nat.zero_add]; exact dig_get d k hk
      have s1 := HSR.out i hi
      have s2 := HSR.out (i + 1) hlt
      have s3 := HBND.out i hlt
      rw [sumTo] at s2
      obtain ⟨nn, hnn⟩ : ∃ nn, nn = (L.getD i 0).toNat := ⟨_, rfl⟩
      obtain ⟨kk, hkk⟩ : ∃ kk, kk = cnt K i := ⟨_, rfl⟩
      have hkk' : kk = (K.getD i 0).toNat := hkk
      have hnz : L.getD i 0 = (nn : Int) := by omega
      have hkz : K.getD i 0 = (kk : Int) := by omega
      have hkn : kk ≤ nn := by omega
      rw [hnz] at s2
      have hn4 : nn ≤ 4096 := by omega
      have HNX := Lib.hid (show sumTo L (i + 1) = sumTo L i + (nn : Int) by rw [sumTo, hnz])
      have HNN := Lib.hid hnn
      have HKK := Lib.hid hkk
      have HNZ := Lib.hid hnz
      have HKZ := Lib.hid hkz
      clear hnn hkk hkk' s3 hnz hkz
      obtain ⟨s, hse⟩ : ∃ s, s = sumTo L i := ⟨_, rfl⟩
      rw [← hse] at s1 s2 HNX ⊢
      have HSE := Lib.hid hse
      clear hse
      go_wp2_with (refine to_str2 rfl _ rfl rfl hd.symm hR0 ?_)
      clear hR0
      have hX5 : Blk (wr.alloc (.cells #[.int .i64 2, .int .i64 0, .string ⟨d.toArray⟩, .slice none 0 0, .int .i64 1, .int .i64 i, .string ⟨#[]⟩, .slice none 0 0] 93)) wr.heap.size 93 _ := Blk.new _ _ _
      have hB5 : Below wr.heap.size wr (wr.alloc (.cells #[.int .i64 2, .int .i64 0, .string ⟨d.toArray⟩, .slice none 0 0, .int .i64 1, .int .i64 i, .string ⟨#[]⟩, .slice none 0 0] 93)) := (Below.refl _ _).alloc (Nat.le_refl _) _
      generalize wr.alloc (.cells #[.int .i64 2, .int .i64 0, .string ⟨d.toArray⟩, .slice none 0 0, .int .i64 1, .int .i64 i, .string ⟨#[]⟩, .slice none 0 0] 93) = w5 at hX5 hB5 ⊢
      obtain ⟨g, hg⟩ : ∃ g, g = wr.heap.size := ⟨_, rfl⟩
      rw [← hg] at hX5 ⊢
      have hE5 := elems_two _ i hX5
      have HLEN := Lib.hid (partText_len d hd i (by omega))
      have hx : Enc w5 (V4.list (some ⟨g, 0, none⟩) 2 2) (0 + 1) (partText d i) := by
        refine enc_list w5 (some ⟨g, 0, none⟩) [V4.text ⟨d.toArray⟩, V4.int i] [textB d, intB i] 2 0 rfl hE5 (by simp) (by omega) (by simp) (by omega) fun k x e h1 h2 => ?_
        rcases k with _ | _ | k
        · obtain rfl := Option.some.inj h1
          obtain rfl := Option.some.inj h2
          exact enc_text w5 ⟨d.toArray⟩
        · obtain rfl := Option.some.inj h1
          obtain rfl := Option.some.inj h2
          exact enc_int w5 i (by omega)
        · cases h1
      have hcall : Calls Tryd.prog 69 #[.agg #[.int .i64 3, .int .i64 0, .string ⟨#[]⟩, .slice (some ⟨g, 0, none⟩) 2 2]] w5 (EncPost (partText d i) w5) := encode_ok (V4.list (some ⟨g, 0, none⟩) 2 2) (0 + 1) (partText d i) w5 hx (by have := HLEN.out; omega) (by have := HLEN.out; omega)
      have HC := Lib.hid hcall
      clear hx hcall hE5 hX5 hg
      refine HC.out.mono ?_
      rintro e w6 ⟨v6, rfl, hown6, hb6⟩
      have hB6 : Below wr.heap.size wr w6 := hB5.trans (hb6.mono hB5.size)
      obtain ⟨T, hT⟩ : ∃ T, T = partText d i := ⟨_, rfl⟩
      have hTl : T.length ≤ 1000 := by rw [hT]; exact HLEN.out
      rw [← hT] at hown6
      have HT := Lib.hid hT
      obtain ⟨-, A6, c6, rfl, -, -, hr6⟩ := own_slice hown6
      clear hown6 hb6 hB5 hT HC
      have hBw6 : Below w.heap.size w w6 := hBw.trans (hB6.mono hBw.size)
      have hB26 : Below w2.heap.size w2 w6 := hBr.trans (hB6.mono hBr.size)
      obtain ⟨bl, ol, rfl, _, hcl⟩ := (HRL.out.below hBw6).at_ (k := i) hlt
      obtain ⟨bk, ok, rfl, _, hck⟩ := (HRK.out.below hBw6).at_ (k := i) hlt
      rw [HNZ.out] at hcl
      rw [HKZ.out] at hck
      go_wp2_with fail
      refine wp_region_held_drew (S := fun W' => Below w6.heap.size w6 W') (by kernel_rfl) (Below.refl _ _).drew (fun hS => ?_)
      refine wpAnyH_take (i := 0) (v := .slice A6 T.length c6) rfl (by kernel_rfl) (by kernel_rfl) (by kernel_rfl) (fun _ _ _ h => h) (Or.inl ⟨by rfl, fun W' hS' => by go_simp⟩) hS ?_
      simp only [Act.put, List.setIfInBounds_toArray, List.set_cons_zero, List.set_cons_succ]
      refine wpAnyH_take (i := 2) (v := .slice (some ⟨bl, ol, none⟩) n cL) rfl (by kernel_rfl) (by kernel_rfl) (by kernel_rfl) (fun _ _ _ h => h) (Or.inl ⟨by rfl, fun W' hS' => by go_simp⟩) hS ?_
      simp only [Act.put, List.setIfInBounds_toArray, List.set_cons_zero, List.set_cons_succ]
      refine wpAnyH_take (i := 3) (v := .int .i64 i) rfl (by kernel_rfl) (by kernel_rfl) (by kernel_rfl) (fun _ _ _ h => h) (Or.inl ⟨by rfl, fun W' hS' => by go_simp⟩) hS ?_
      simp only [Act.put, List.setIfInBounds_toArray, List.set_cons_zero, List.set_cons_succ]
      refine wpAnyH_take (i := 4) (v := .pointer (some ⟨bl, ol + i, none⟩)) rfl (by kernel_rfl) (by kernel_rfl) (by kernel_rfl) (fun _ _ _ h => h) (Or.inl ⟨by rfl, fun W' hS' => by go_simp⟩) hS ?_
      simp only [Act.put, List.setIfInBounds_toArray, List.set_cons_zero, List.set_cons_succ]
      refine wpAnyH_take (i := 5) (v := .int .i64 nn) rfl (by kernel_rfl) (by kernel_rfl) (by kernel_rfl) (fun _ _ _ h => h) (Or.inl ⟨by rfl, fun W' hS' => by have := (hS'.cell (p := ⟨bl, ol + i, none⟩) (World.block_lt_of_cell? w6 _ hcl)).trans hcl; go_simp⟩) hS ?_
      simp only [Act.put, List.setIfInBounds_toArray, List.set_cons_zero, List.set_cons_succ]
      refine wpAnyH_take (i := 6) (v := .slice (some ⟨bk, ok, none⟩) n cK) rfl (by kernel_rfl) (by kernel_rfl) (by kernel_rfl) (fun _ _ _ h => h) (Or.inl ⟨by rfl, fun W' hS' => by go_simp⟩) hS ?_
      simp only [Act.put, List.setIfInBounds_toArray, List.set_cons_zero, List.set_cons_succ]
      refine wpAnyH_take (i := 7) (v := .int .i64 i) rfl (by kernel_rfl) (by kernel_rfl) (by kernel_rfl) (fun _ _ _ h => h) (Or.inl ⟨by rfl, fun W' hS' => by go_simp⟩) hS ?_
      simp only [Act.put, List.setIfInBounds_toArray, List.set_cons_zero, List.set_cons_succ]
      refine wpAnyH_take (i := 8) (v := .pointer (some ⟨bk, ok + i, none⟩)) rfl (by kernel_rfl) (by kernel_rfl) (by kernel_rfl) (fun _ _ _ h => h) (Or.inl ⟨by rfl, fun W' hS' => by go_simp⟩) hS ?_
      simp only [Act.put, List.setIfInBounds_toArray, List.set_cons_zero, List.set_cons_succ]
      refine wpAnyH_take (i := 9) (v := .int .i64 kk) rfl (by kernel_rfl) (by kernel_rfl) (by kernel_rfl) (fun _ _ _ h => h) (Or.inl ⟨by rfl, fun W' hS' => by have := (hS'.cell (p := ⟨bk, ok + i, none⟩) (World.block_lt_of_cell? w6 _ hck)).trans hck; go_simp⟩) hS ?_
      simp only [Act.put, List.setIfInBounds_toArray, List.set_cons_zero, List.set_cons_succ]
      refine wpAnyH_ready (rs := [1]) (by kernel_rfl) (by simp) ?_
      refine AllReadyH.cons rfl (fun Kq hKq => ?_) AllReadyH.nil
      go_simp
      refine (tagged_any ⟨#[112, 97, 114, 116]⟩ A6 T c6 _ (HL.out.below (hBw6.trans (hS.mono hBw6.size))) ((hr6.below hS).more hS.size) (by omega) (by decide)).mono ?_
      rintro e Wb ⟨rfl, hb2⟩
      have hS2 : Below w6.heap.size w6 Wb := hS.trans (hb2.mono hS.size)
      refine hKq.out _ _ hS2 (fun _ => ?_)
      clear hKq Kq hb2 hS
      obtain ⟨D, hDe⟩ : ∃ D, D = partDig d i := ⟨_, rfl⟩
      have hDl : D.length = 32 := by rw [hDe]; exact tagged_length _ _
      rw [show tagged (⟨#[112, 97, 114, 116]⟩ : ByteArray).data.toList T = D by rw [hDe, partDig, ← HT.out]; rfl]
      have HDE := Lib.hid hDe
      clear hDe
      refine wpAnyH_ready (rs := [10]) (by kernel_rfl) (by simp) ?_
      refine AllReadyH.cons rfl (fun Kq hKq => ?_) AllReadyH.nil
      go_simp
      refine (sdraw_view D hDl nn kk hkn hn4 Wb (HL.out.below (hBw6.trans (hS2.mono hBw6.size)))).mono ?_
      rintro e Wc ⟨X, rfl, hrx, hb3⟩
      have hS3 : Below w6.heap.size w6 Wc := hS2.trans (hb3.mono hS2.size)
      refine hKq.out _ _ hS3 (fun _ => ?_)
      clear hKq Kq hb3 hS2
      refine wpAnyH_take (i := 11) (v := .tuple #[.slice X kk kk, .int .i64 0]) rfl (by kernel_rfl) (by kernel_rfl) (by kernel_rfl) (fun _ _ _ h => h) (Or.inl ⟨by rfl, fun W' hS' => by go_simp⟩) hS3 ?_
      simp only [Act.put, List.setIfInBounds_toArray, List.set_cons_zero, List.set_cons_succ]
      refine wpAnyH_take (i := 12) (v := .slice X kk kk) rfl (by kernel_rfl) (by kernel_rfl) (by kernel_rfl) (fun _ _ _ h => h) (Or.inl ⟨by rfl, fun W' hS' => by go_simp⟩) hS3 ?_
      simp only [Act.put, List.setIfInBounds_toArray, List.set_cons_zero, List.set_cons_succ]
      refine wpAnyH_take (i := 13) (v := .int .i64 0) rfl (by kernel_rfl) (by kernel_rfl) (by kernel_rfl) (fun _ _ _ h => h) (Or.inl ⟨by rfl, fun W' hS' => by go_simp⟩) hS3 ?_
      simp only [Act.put, List.setIfInBounds_toArray, List.set_cons_zero, List.set_cons_succ]
      refine wpAnyH_take (i := 14) (v := .slice X kk kk) rfl (by kernel_rfl) (by kernel_rfl) (by kernel_rfl) (fun _ _ _ h => h) (Or.inl ⟨by rfl, fun W' hS' => by go_simp⟩) hS3 ?_
      simp only [Act.put, List.setIfInBounds_toArray, List.set_cons_zero, List.set_cons_succ]
      refine wpAnyH_take (i := 15) (v := .int .i64 0) rfl (by kernel_rfl) (by kernel_rfl) (by kernel_rfl) (fun _ _ _ h => h) (Or.inl ⟨by rfl, fun W' hS' => by go_simp⟩) hS3 ?_
      simp only [Act.put, List.setIfInBounds_toArray, List.set_cons_zero, List.set_cons_succ]
      refine wpAnyH_done (by kernel_rfl) ?_ _
      have hB2c : Below w2.heap.size w2 Wc := hB26.trans (hS3.mono hB26.size)
      obtain ⟨bq, oq, rfl, _, hcq⟩ := (HFR.out.below hB2c).at_ (k := i) hlt
      obtain ⟨Q, cq, eq_, hrq⟩ := HG.out i hlt
      rw [← HKK.out] at eq_ hrq
      rw [eq_] at hcq
      have hrq2 := (hrq.below hB2c).more hB2c.size
      have HX := Lib.hid (show ∀ p, p < kk → (strat d L i).getD p 0 = s + (orderOf D nn).getD p 0 from fun p hp => by rw [strat_get d L i p (by rw [← HNN.out]; omega), ← HNN.out, ← HDE.out, ← HSE.out, Int.add_comm])
      have hor : ∀ i, 0 ≤ (orderOf D nn).getD i 0 ∧ (orderOf D nn).getD i 0 ≤ nn := fun i => orderOf_range D nn i
      have HOR := Lib.hid hor
      clear hcl hck hrq eq_ hr6 hS3 hB26 hBw6 hB6 hBw hor
      go_wp2_with fail
      go_loopw [21] (fun x wr => ∃ j q : Nat, j ≤ kk ∧ x = .int .i64 j ∧ wr = Wc.drewN q) (fun x _ => kk - (intOf x).toNat)
      case atStart => exact ⟨0, 0, by omega, rfl, rfl⟩
      case round =>
        obtain ⟨j, q, hj, rfl, hq⟩ := hrel
        by_cases hjk : j < kk
        · have hcq' : wr.cell? ⟨bq, oq + i, none⟩ = some (.slice Q kk cq) := by rw [hq]; exact hcq
          have hrq' : Rd wr Wc.heap.size Q kk (fun p => .int .i64 ((strat d L i).getD p 0)) := by rw [hq]; exact hrq2.drewN q
          have hrx' : Rd wr Wc.heap.size X kk (fun p => .int .i64 ((orderOf D nn).getD p 0)) := by rw [hq]; exact hrx.drewN q
          obtain ⟨b3, o3, rfl, _, hc3⟩ := hrq'.at_ (k := j) hjk
          obtain ⟨b4, o4, rfl, _, hc4⟩ := hrx'.at_ (k := j) hjk
          rw [HX.out j hjk] at hc3
          have hxr := HOR.out j
          obtain ⟨x, hx⟩ : ∃ x, x = (orderOf D nn).getD j 0 := ⟨_, rfl⟩
          rw [← hx] at hc3 hc4 hxr
          have HQ := Lib.hid hq
          clear hx hq hrq' hrx'
          go_wp2_with fail
          go_quiet (fail)
          go_wp2_with fail
          go_roundw
          case rel => exact ⟨j + 1, _, by omega, by go_num, by rw [HQ.out]; exact World.drewN_drewN _ _ _⟩
          case measure => simp [intOf]; omega
        · obtain rfl : j = kk := by omega
          have hBr2 : Below w2.heap.size w2 wr := by rw [hq]; exact below_drewN hB2c q
          have hBw2 : Below w.heap.size w wr := hB2.trans (hBr2.mono hB2.size)
          obtain ⟨b5, o5, e5, _, hc5⟩ := (HRL.out.below hBw2).at_ (k := i) hlt
          obtain ⟨rfl, rfl⟩ : bl = b5 ∧ ol = o5 := by injection e5 with e5; injection e5 with e1 e2; exact ⟨e1, e2⟩
          rw [HNZ.out] at hc5
          clear hq hcq hrx hrq2 hB2c hB2 e5
          go_wp2_with fail
          go_roundw
          case rel => exact ⟨i + 1, by omega, by go_num, by rw [HNX.out], hBr2⟩
          case measure => simp [intOf]; omega
    · obtain rfl : i = n := by omega
      obtain ⟨r, hr⟩ : ∃ r, r = a % i := ⟨_, rfl⟩
      have hri : r < i := by rw [hr]; exact Nat.mod_lt _ (by omega)
      have hrem : Int.tmod (a : Int) (i : Int) = (r : Int) := by rw [Int.tmod_eq_emod_of_nonneg (by omega), hr]; rfl
      have hBw : Below w.heap.size w wr := hB2.trans (hBr.mono hB2.size)
      have hDr := hD2.below hBr hD2s
      clear hr hlt hi
      by_cases z1 : size < 0
      · go_wp2_with fail
        go_ret
        exact ⟨rfl, hBw⟩
      by_cases z2 : 40 < size
      · go_wp2_with fail
        go_ret
        exact ⟨rfl, hBw⟩
      by_cases z3 : many < 0
      · go_wp2_with fail
        go_ret
        exact ⟨rfl, hBw⟩
      by_cases z4 : size < many
      · go_wp2_with fail
        go_ret
        exact ⟨rfl, hBw⟩
      obtain ⟨S, rfl⟩ : ∃ S : Nat, size = S := ⟨size.toNat, by omega⟩
      obtain ⟨M, rfl⟩ : ∃ M : Nat, many = M := ⟨many.toNat, by omega⟩
      have hS40 : S ≤ 40 := by omega
      have hMS : M ≤ S := by omega
      clear z1 z2 z3 z4
      have hwb : w.heap.size ≤ wr.heap.size := hBw.size
      have hO0 := IOwn.empty_new wr wr.heap.size (Nat.le_refl _)
      have hBx : Below w.heap.size w (wr.alloc (.cells #[] 3)) := hBw.alloc hwb _
      go_wp2_with (first
        | (at_builtin; refine app_ints rfl _ _ rfl wr.heap.size (.slice (some ⟨wr.heap.size, 0, none⟩) 0 0) [] rfl hO0 L HM.out (HRL.out.below hBx) rfl (by simp; omega) (by simp) ?_; intro v3 w3 hown3 hg3
           rw [List.nil_append] at hown3
           have hB3 : Below wr.heap.size wr w3 := ((Below.refl _ wr).alloc (Nat.le_refl _) _).trans (hg3.below (by simp) fun k hk => by have : wr.heap.size = k := Option.some.inj hk; omega)
           have hBw3 : Below w.heap.size w w3 := hBw.trans (hB3.mono hwb)
           have hO4 := IOwn.empty_new w3 w3.heap.size (Nat.le_refl _)
           have hBx4 : Below w.heap.size w (w3.alloc (.cells #[] 3)) := hBw3.alloc hBw3.size _)
        | (at_builtin; refine app_ints rfl _ _ rfl w3.heap.size (.slice (some ⟨w3.heap.size, 0, none⟩) 0 0) [] rfl hO4 K HN.out (HRK.out.below hBx4) rfl (by simp; omega) (by simp) ?_; intro v4 w4 hown4 hg4
           rw [List.nil_append] at hown4
           have hB4 : Below w3.heap.size w3 w4 := ((Below.refl _ w3).alloc (Nat.le_refl _) _).trans (hg4.below (by simp) fun k hk => by have : w3.heap.size = k := Option.some.inj hk; omega)
           have hown34 := hown3.below hB4
           have hl3 := hB3.size
           have hl4 := hB4.size
           obtain ⟨g3, c3, rfl, hc3, -⟩ := hown34.row HM.out.symm (by omega)
           obtain ⟨g4, c4, rfl, hc4, -⟩ := hown4.row HN.out.symm (by omega)
           have hg3lt := (World.ownsRow.lt hown3 g3 rfl).2
           have hg3ge := (World.ownsRow.lt hown3 g3 rfl).1
           have hg4ge := (World.ownsRow.lt hown4 g4 rfl).1
           have k3 := hown34.cellAt HM.out.symm hri
           have k4 := hown4.cellAt HN.out.symm hri
           have f3 := hown34.frozenAt HM.out.symm r
           have f4 := hown4.frozenAt HN.out.symm r
           have k4' : (w4.setCell ⟨g3, r, none⟩ (.int .i64 S)).cell? ⟨g4, r, none⟩ = some (.int .i64 (K.getD r 0)) := (World.cell?_setCell_other _ _ _ _ (fun e => by have := (Addr.mk.inj e).1; omega)).trans k4
           have hB5 : Below wr.heap.size wr ((w4.setCell ⟨g3, r, none⟩ (.int .i64 S)).setCell ⟨g4, r, none⟩ (.int .i64 M)) := ((hB3.trans (hB4.mono hl3)).setCell (p := ⟨g3, r, none⟩) hg3ge _).setCell (p := ⟨g4, r, none⟩) (by show wr.heap.size ≤ g4; omega) _
           have hDx := hDr.below hB5 hDr.lt)
        | (refine load_dig rfl _ rfl d hd hDx rfl ?_))
      have hs3 := (hown34.set HM.out.symm r (S : Int)).1
      have h4a : IOwn (w4.setCell ⟨g3, r, none⟩ (.int .i64 S)) w3.heap.size (.slice (some ⟨g4, 0, none⟩) i c4) K := World.ownsRow.kept hown4 (row := some g3) ((Only.refl w4 _).set (.inl rfl) _) (.inr (fun e => by have : g4 = g3 := Option.some.inj e; omega))
      have hs4 := (h4a.set HN.out.symm r (M : Int)).1
      have h3a : IOwn ((w4.setCell ⟨g3, r, none⟩ (.int .i64 S)).setCell ⟨g4, r, none⟩ (.int .i64 M)) wr.heap.size (.slice (some ⟨g3, 0, none⟩) i c3) (L.set r (S : Int)) := World.ownsRow.kept hs3 (row := some g4) ((Only.refl _ _).set (.inl rfl) _) (.inr (fun e => by have : g3 = g4 := Option.some.inj e; omega))
      obtain ⟨L', hL'⟩ : ∃ L', L' = L.set r (S : Int) := ⟨_, rfl⟩
      obtain ⟨K', hK'⟩ : ∃ K', K' = K.set r (M : Int) := ⟨_, rfl⟩
      rw [← hL'] at h3a
      rw [← hK'] at hs4
      have hl' : i = L'.length := by rw [hL', List.length_set]; exact HM.out
      have hk' : i = K'.length := by rw [hK', List.length_set]; exact HN.out
      have hil' : IntL L' := by rw [hL']; exact HIL.out.set r S (by rw [← HM.out]; exact hri) (by omega)
      have hik' : IntL K' := by rw [hK']; exact HIK.out.set r M (by rw [← HN.out]; exact hri) (by omega)
      have HA2 := Lib.hid (fun W hW h1 h2 => strata_all d hd (some ⟨g3, 0, none⟩) L' c3 (by omega) hil' (some ⟨g4, 0, none⟩) K' c4 (by omega) hik' W hW h1 h2)
      rw [← hl', ← hk'] at HA2
      have hr3 := h3a.rd hl'.symm
      have hr4 := hs4.rd hk'.symm
      have HL' := Lib.hid hL'
      have HK' := Lib.hid hK'
      have HLL := Lib.hid hl'
      have HKL := Lib.hid hk'
      clear hs3 h4a hs4 h3a hL' hK' hl' hk' hil' hik' hown3 hown4 hown34 k3 k4 k4' f3 f4 hg3lt hg3ge hg4ge hg4 hO4 hBx4 hB4 hO0 hBx hg3 hDx
      generalize (w4.setCell ⟨g3, r, none⟩ (.int .i64 S)).setCell ⟨g4, r, none⟩ (.int .i64 M) = w5 at hr3 hr4 hB5 ⊢
      have hBw5 : Below w.heap.size w w5 := hBw.trans (hB5.mono hwb)
      have hB25 : Below w2.heap.size w2 w5 := hBr.trans (hB5.mono hBr.size)
      clear hB5 hDr hBr hB3 hBw3 hl3 hl4 hBw
      refine (HA2.out _ (HL.out.below hBw5) hr3 hr4).mono ?_
      rintro e w6 ⟨v6, x6, rfl, hv6, hb6⟩
      have hBw6 : Below w.heap.size w w6 := hBw5.trans (hb6.mono hBw5.size)
      have hB26 : Below w2.heap.size w2 w6 := hB25.trans (hb6.mono hB25.size)
      clear hr3 hr4 hb6 hBw5 hB25
      rcases hv6 with ⟨hok6, rfl, hv6⟩ | ⟨hno, rfl, hx6⟩
      rotate_left
      · obtain rfl : x6 = 550 := by rw [hx6, ← HLL.out, if_neg (by omega)]
        clear hx6 hno
        go_wp2_with fail
        go_ret
        exact ⟨rfl, hBw6⟩
      rw [← HLL.out] at hv6
      obtain ⟨A6, c6, rfl, f6, hf6, hg6⟩ := hv6
      have HF6 := Lib.hid hf6
      have HG6 := Lib.hid hg6
      have HOK6 := Lib.hid hok6
      clear hf6 hg6 hok6
      have HNE := Lib.hid (fun p (hp : p ≠ r) => (show L'.getD p 0 = L.getD p 0 ∧ cnt K' p = cnt K p from by
        rw [HL'.out, HK'.out, cnt, cnt, getD_set _ _ _ _ (by rw [← HM.out]; exact hri), getD_set _ _ _ _ (by rw [← HN.out]; exact hri), if_neg hp, if_neg hp]
        exact ⟨rfl, rfl⟩))
      have HSX := Lib.hid (fun p => (show sumTo L' p = sumTo L p + if r < p then (S : Int) - L.getD r 0 else 0 from by rw [HL'.out]; exact sumTo_set L r S (by rw [← HM.out]; exact hri) p))
      go_wp2_with fail
      go_loopw [27] (fun x wr => ∃ k q : Nat, k ≤ i ∧ x = .int .i64 k ∧ wr = w6.drewN q) (fun x _ => i - (intOf x).toNat)
      case atStart => exact ⟨0, 0, by omega, rfl, rfl⟩
      case round =>
        obtain ⟨k, q, hk, rfl, hq⟩ := hrel
        obtain ⟨wo, rfl⟩ : ∃ wo, wo = wr := ⟨_, rfl⟩
        have hB6o : Below w.heap.size w wo := by rw [hq]; exact below_drewN hBw6 q
        by_cases hlt : k < i
        · rcases Nat.lt_trichotomy k r with hkr | hkr | hkr
          · have hkr' : ¬ (k : Int) = (r : Int) := by omega
            have h2o : Below w2.heap.size w2 wo := by rw [hq]; exact below_drewN hB26 q
            have hf6o : Rd wo w6.heap.size A6 i f6 := by rw [hq]; exact HF6.out.drewN q
            obtain ⟨b1, o1, rfl, _, hc1⟩ := hf6o.at_ (k := k) hlt
            obtain ⟨P, c1, e1, hp1⟩ := HG6.out k hlt
            obtain ⟨b2, o2, rfl, _, hc2⟩ := (HFR.out.below h2o).at_ (k := k) hlt
            obtain ⟨Q, cq, e2, hq2⟩ := HG.out k hlt
            have hne := HNE.out k (by omega)
            rw [hne.2] at e1 hp1
            obtain ⟨kk, hkk⟩ : ∃ kk, kk = cnt K k := ⟨_, rfl⟩
            rw [← hkk] at e1 hp1 e2 hq2
            rw [e1] at hc1
            rw [e2] at hc2
            have hbk := HBND.out k hlt
            have hbr := HBND.out r hri
            have hsk := HSR.out k (by omega)
            have hkk4 : kk ≤ (L.getD k 0).toNat ∧ (L.getD k 0).toNat ≤ 4096 := by
              have := HSR.out (k + 1) (by omega)
              rw [sumTo] at this
              have hc : cnt K k = (K.getD k 0).toNat := rfl
              omega
            have hlr4 : 0 ≤ L.getD r 0 ∧ L.getD r 0 ≤ 4096 := by
              have := HSR.out (r + 1) (by omega)
              have := HSR.out r (by omega)
              rw [sumTo] at *
              omega
            have HX := Lib.hid (show ∀ p, p < kk → (strat d L' k).getD p 0 = (strat d L k).getD p 0 ∧ 0 ≤ (strat d L k).getD p 0 ∧ (strat d L k).getD p 0 ≤ 8192 from fun p hp => by
              have ho := orderOf_range (partDig d k) (L.getD k 0).toNat p
              rw [strat_get d L' k p (by rw [hne.1]; omega), strat_get d L k p (by omega), hne.1, HSX.out, if_neg (by omega)]
              omega)
            have hp1o : Rd wo w6.heap.size P kk (fun p => .int .i64 ((strat d L' k).getD p 0)) := by rw [hq]; exact hp1.drewN q
            have hq2o : Rd wo w2.heap.size Q kk (fun p => .int .i64 ((strat d L k).getD p 0)) := hq2.below h2o
            have HP := Lib.hid hp1o
            have HQ2 := Lib.hid hq2o
            have HQ := Lib.hid hq
            have hkk5 : kk ≤ 4096 := by omega
            clear hq hp1 hq2 hp1o hq2o hf6o e1 e2 hbk hbr hne hkk hkk4
            go_wp2_with fail
            go_quiet (fail)
            have d1 : (wo.drewN nq).cell? ⟨b1, o1 + k, none⟩ = some (.slice P kk c1) := hc1
            have d2 : (wo.drewN nq).cell? ⟨b2, o2 + k, none⟩ = some (.slice Q kk cq) := hc2
            have HP' := Lib.hid (HP.out.drewN nq)
            have HQ' := Lib.hid (HQ2.out.drewN nq)
            have HQQ := Lib.hid (show wo.drewN nq = w6.drewN (q + nq) by rw [HQ.out]; exact World.drewN_drewN _ _ _)
            clear hc1 hc2
            generalize wo.drewN nq = wp at d1 d2 HP' HQ' HQQ ⊢
            go_wp2_with fail
            go_loopw [29] (fun x wr => ∃ j q : Nat, j ≤ kk ∧ x = .int .i64 j ∧ wr = wp.drewN q) (fun x _ => kk - (intOf x).toNat)
            case atStart => exact ⟨0, 0, by omega, rfl, rfl⟩
            case round =>
              obtain ⟨j, q2, hj, rfl, hqq⟩ := hrel
              have t1 : wr.cell? ⟨b1, o1 + k, none⟩ = some (.slice P kk c1) := by rw [hqq]; exact d1
              have t2 : wr.cell? ⟨b2, o2 + k, none⟩ = some (.slice Q kk cq) := by rw [hqq]; exact d2
              by_cases hjk : j < kk
              · have hp2 : Rd wr w6.heap.size P kk (fun p => .int .i64 ((strat d L' k).getD p 0)) := by rw [hqq]; exact HP'.out.drewN q2
                have hq3 : Rd wr w2.heap.size Q kk (fun p => .int .i64 ((strat d L k).getD p 0)) := by rw [hqq]; exact HQ'.out.drewN q2
                obtain ⟨b4, o4, rfl, _, hc4⟩ := hp2.at_ (k := j) hjk
                obtain ⟨b5, o5, rfl, _, hc5⟩ := hq3.at_ (k := j) hjk
                have hx := HX.out j hjk
                rw [hx.1] at hc4
                obtain ⟨x, hxe⟩ : ∃ x, x = (strat d L k).getD j 0 := ⟨_, rfl⟩
                rw [← hxe] at hc4 hc5 hx
                have hx2 := hx.2
                have HQ3 := Lib.hid hqq
                clear hx hxe hqq hp2 hq3 d1 d2
                go_wp2_with fail
                go_quiet (fail)
                go_wp2_with fail
                go_roundw
                case rel => exact ⟨j + 1, _, by omega, by go_num, by rw [HQ3.out]; exact World.drewN_drewN _ _ _⟩
                case measure => simp [intOf]; omega
              · obtain rfl : j = kk := by omega
                have HQ3 := Lib.hid (show wr = w6.drewN (q + nq + q2) by rw [hqq, HQQ.out]; exact World.drewN_drewN _ _ _)
                clear hqq d1 d2
                go_wp2_with fail
                go_roundw
                case rel => exact ⟨k + 1, _, by omega, by go_num, HQ3.out⟩
                case measure => simp [intOf]; omega
          · subst hkr
            have HQ := Lib.hid hq
            clear hq
            go_wp2_with fail
            go_roundw
            case rel => exact ⟨k + 1, q, by omega, by go_num, HQ.out⟩
            case measure => simp [intOf]; omega
          · have hkr' : ¬ (k : Int) = (r : Int) := by omega
            have h2o : Below w2.heap.size w2 wo := by rw [hq]; exact below_drewN hB26 q
            have hf6o : Rd wo w6.heap.size A6 i f6 := by rw [hq]; exact HF6.out.drewN q
            obtain ⟨b1, o1, rfl, _, hc1⟩ := hf6o.at_ (k := k) hlt
            obtain ⟨P, c1, e1, hp1⟩ := HG6.out k hlt
            obtain ⟨b2, o2, rfl, _, hc2⟩ := (HFR.out.below h2o).at_ (k := k) hlt
            obtain ⟨Q, cq, e2, hq2⟩ := HG.out k hlt
            have hne := HNE.out k (by omega)
            rw [hne.2] at e1 hp1
            obtain ⟨kk, hkk⟩ : ∃ kk, kk = cnt K k := ⟨_, rfl⟩
            rw [← hkk] at e1 hp1 e2 hq2
            rw [e1] at hc1
            rw [e2] at hc2
            have hbk := HBND.out k hlt
            have hbr := HBND.out r hri
            have hsk := HSR.out k (by omega)
            have hkk4 : kk ≤ (L.getD k 0).toNat ∧ (L.getD k 0).toNat ≤ 4096 := by
              have := HSR.out (k + 1) (by omega)
              rw [sumTo] at this
              have hc : cnt K k = (K.getD k 0).toNat := rfl
              omega
            have hlr4 : 0 ≤ L.getD r 0 ∧ L.getD r 0 ≤ 4096 := by
              have := HSR.out (r + 1) (by omega)
              have := HSR.out r (by omega)
              rw [sumTo] at *
              omega
            obtain ⟨b3, o3, rfl, _, hc3⟩ := (HRL.out.below hB6o).at_ (k := r) hri
            obtain ⟨lr, hlr⟩ : ∃ lr, lr = L.getD r 0 := ⟨_, rfl⟩
            rw [← hlr] at hc3 hlr4
            have HX := Lib.hid (show ∀ p, p < kk → (strat d L' k).getD p 0 = (strat d L k).getD p 0 + ((S : Int) - lr) ∧ 0 ≤ (strat d L k).getD p 0 ∧ (strat d L k).getD p 0 ≤ 8192 from fun p hp => by
              have ho := orderOf_range (partDig d k) (L.getD k 0).toNat p
              rw [strat_get d L' k p (by rw [hne.1]; omega), strat_get d L k p (by omega), hne.1, HSX.out, if_pos hkr, ← hlr]
              omega)
            clear hlr
            have hp1o : Rd wo w6.heap.size P kk (fun p => .int .i64 ((strat d L' k).getD p 0)) := by rw [hq]; exact hp1.drewN q
            have hq2o : Rd wo w2.heap.size Q kk (fun p => .int .i64 ((strat d L k).getD p 0)) := hq2.below h2o
            have HP := Lib.hid hp1o
            have HQ2 := Lib.hid hq2o
            have HQ := Lib.hid hq
            have hkk5 : kk ≤ 4096 := by omega
            clear hq hp1 hq2 hp1o hq2o hf6o e1 e2 hbk hbr hne hkk hkk4
            go_wp2_with fail
            go_quiet (fail)
            have d1 : (wo.drewN nq).cell? ⟨b1, o1 + k, none⟩ = some (.slice P kk c1) := hc1
            have d2 : (wo.drewN nq).cell? ⟨b2, o2 + k, none⟩ = some (.slice Q kk cq) := hc2
            have HP' := Lib.hid (HP.out.drewN nq)
            have HQ' := Lib.hid (HQ2.out.drewN nq)
            have HQQ := Lib.hid (show wo.drewN nq = w6.drewN (q + nq) by rw [HQ.out]; exact World.drewN_drewN _ _ _)
            clear hc1 hc2
            generalize wo.drewN nq = wp at d1 d2 HP' HQ' HQQ ⊢
            go_wp2_with fail
            go_loopw [29] (fun x wr => ∃ j q : Nat, j ≤ kk ∧ x = .int .i64 j ∧ wr = wp.drewN q) (fun x _ => kk - (intOf x).toNat)
            case atStart => exact ⟨0, 0, by omega, rfl, rfl⟩
            case round =>
              obtain ⟨j, q2, hj, rfl, hqq⟩ := hrel
              have t1 : wr.cell? ⟨b1, o1 + k, none⟩ = some (.slice P kk c1) := by rw [hqq]; exact d1
              have t2 : wr.cell? ⟨b2, o2 + k, none⟩ = some (.slice Q kk cq) := by rw [hqq]; exact d2
              by_cases hjk : j < kk
              · have hp2 : Rd wr w6.heap.size P kk (fun p => .int .i64 ((strat d L' k).getD p 0)) := by rw [hqq]; exact HP'.out.drewN q2
                have hq3 : Rd wr w2.heap.size Q kk (fun p => .int .i64 ((strat d L k).getD p 0)) := by rw [hqq]; exact HQ'.out.drewN q2
                obtain ⟨b4, o4, rfl, _, hc4⟩ := hp2.at_ (k := j) hjk
                obtain ⟨b5, o5, rfl, _, hc5⟩ := hq3.at_ (k := j) hjk
                have hx := HX.out j hjk
                rw [hx.1] at hc4
                obtain ⟨x, hxe⟩ : ∃ x, x = (strat d L k).getD j 0 := ⟨_, rfl⟩
                rw [← hxe] at hc4 hc5 hx
                have hx2 := hx.2
                have HQ3 := Lib.hid hqq
                clear hx hxe hqq hp2 hq3 d1 d2
                go_wp2_with fail
                go_quiet (fail)
                go_wp2_with fail
                go_roundw
                case rel => exact ⟨j + 1, _, by omega, by go_num, by rw [HQ3.out]; exact World.drewN_drewN _ _ _⟩
                case measure => simp [intOf]; omega
              · obtain rfl : j = kk := by omega
                have HQ3 := Lib.hid (show wr = w6.drewN (q + nq + q2) by rw [hqq, HQQ.out]; exact World.drewN_drewN _ _ _)
                clear hqq d1 d2
                go_wp2_with fail
                go_roundw
                case rel => exact ⟨k + 1, _, by omega, by go_num, HQ3.out⟩
                case measure => simp [intOf]; omega
        · obtain rfl : k = i := by omega
          clear hq
          go_wp2_with fail
          go_ret
          exact ⟨rfl, hB6o⟩
end Go.Proofs.YtibnikokgbfcdaaDoor

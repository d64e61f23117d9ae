/- Walks: podiumref32.Take, Number, Order, Few. -/
import Derived.Test.YtibnikokgbfcdaaDoorR7
import Derived.Test.YtibnikokgbfcdaaDoorW18
namespace Go.Proofs.YtibnikokgbfcdaaDoor
open Go.RowKit

set_option maxRecDepth 100000 in
set_option maxHeartbeats 1000000 in
theorem rTake_any (word n : Int) (h0 : -9223372036854775808 ≤ word) (h1 : word < 9223372036854775808) (h2 : -9223372036854775808 ≤ n) (h3 : n < 9223372036854775808) (w : World) :
    Calls Tryd.prog 28 #[.int .i64 word, .int .i64 n] w (fun e w' => e = .returned (takeV (takeOf word n)) ∧ w = w') := by
  by_cases c1 : word < 0
  · rw [show takeOf word n = (0, false, 1) from if_pos (.inl c1)]
    go_enter Tryd.func28, Tryd.ntmps28
    go_wp2
    all_goals go_ret3
    all_goals exact ⟨rfl, rfl⟩
  by_cases c2 : 4294967296 ≤ word
  · rw [show takeOf word n = (0, false, 1) from if_pos (.inr (.inl c2))]
    go_enter Tryd.func28, Tryd.ntmps28
    go_wp2
    all_goals go_ret3
    all_goals exact ⟨rfl, rfl⟩
  by_cases c3 : n < 1
  · rw [show takeOf word n = (0, false, 1) from if_pos (.inr (.inr (.inl c3)))]
    go_enter Tryd.func28, Tryd.ntmps28
    go_wp2
    all_goals go_ret3
    all_goals exact ⟨rfl, rfl⟩
  by_cases c4 : 4096 < n
  · rw [show takeOf word n = (0, false, 1) from if_pos (.inr (.inr (.inr c4)))]
    go_enter Tryd.func28, Tryd.ntmps28
    go_wp2
    all_goals go_ret3
    all_goals exact ⟨rfl, rfl⟩
  have m0 : 0 ≤ 4294967296 % n := Int.emod_nonneg _ (by omega)
  have m1 : 4294967296 % n < n := Int.emod_lt_of_pos _ (by omega)
  have hr0 : 0 ≤ word % n := Int.emod_nonneg _ (by omega)
  have hr1 : word % n < n := Int.emod_lt_of_pos _ (by omega)
  have hw : word.tmod n = word % n := Int.tmod_eq_emod_of_nonneg (by omega)
  obtain ⟨q, hq⟩ : ∃ q, q = 4294967296 / n := ⟨_, rfl⟩
  have hqt : (4294967296 : Int).tdiv n = q := by rw [hq]; exact Int.tdiv_eq_ediv_of_nonneg (by omega)
  have hq0 : 0 ≤ q := by rw [hq]; exact Int.ediv_nonneg (by omega) (by omega)
  obtain ⟨L, hL⟩ : ∃ L, L = 4294967296 - 4294967296 % n := ⟨_, rfl⟩
  have hqn : q * n = L := by rw [hq, hL]; have := Int.emod_add_mul_ediv 4294967296 n; rw [Int.mul_comm]; omega
  have hqb : q ≤ 4294967296 := by
    have h : q * 1 ≤ q * n := Int.mul_le_mul_of_nonneg_left (by omega) hq0
    omega
  have hL1 : L ≤ 4294967296 := by omega
  have hL0 : 0 ≤ L := by omega
  have HQ := Lib.hid hq
  by_cases c5 : L ≤ word
  · rw [show takeOf word n = (0, false, 0) by rw [takeOf, if_neg (by omega), if_pos (by omega)]]
    clear hq hL m0 m1
    go_enter Tryd.func28, Tryd.ntmps28
    go_wp2
    all_goals go_ret3
    all_goals exact ⟨rfl, rfl⟩
  · rw [show takeOf word n = (word % n, true, 0) by rw [takeOf, if_neg (by omega), if_neg (by omega)]]
    clear hq hL m0 m1
    go_enter Tryd.func28, Tryd.ntmps28
    go_wp2
    all_goals go_ret3
    all_goals exact ⟨rfl, rfl⟩

set_option maxRecDepth 100000 in
set_option maxHeartbeats 2000000 in
theorem rnumber_good (d : List UInt8) (hd : d.length = 32) (no n : Nat) (hno : no ≤ 1099511627776) (hn0 : 1 ≤ n) (hn1 : n ≤ 4096) (w : World) :
    Calls Tryd.prog 30 #[.agg (dig d), .int .i64 no, .int .i64 n] w (Ret (numV (firstOf n (wordsOf d no 64), 0)) w) := by
  go_enter Tryd.func30, Tryd.ntmps30
  go_wp2_with fail
  go_loopw [8] (fun x wr => ∃ j : Nat, j ≤ 64 ∧ x = .int .i64 j ∧ (∀ y ∈ wordsOf d no j, (takeOf (y.1 : Int) n).2.1 = false) ∧ Blk wr w.heap.size 23 (dig d) ∧ Below w.heap.size w wr) (fun x _ => 64 - (intOf x).toNat)
  case atStart => exact ⟨0, by omega, rfl, by simp [wordsOf], Blk.new _ _ _, (Below.refl _ w).alloc (Nat.le_refl _) _⟩
  case round =>
    obtain ⟨j, hj, rfl, hp, hD, hB⟩ := hrel
    have HP := Lib.hid hp
    clear hp
    by_cases hlt : j < 64
    · have hwl := wordOf_lt d no j
      obtain ⟨⟨v, ok, er⟩, hr⟩ : ∃ r, r = takeOf ((wordOf d no j : Nat) : Int) n := ⟨_, rfl⟩
      have HW := Lib.hid (fun W => rWord_any d hd no j hno (by omega) W)
      obtain ⟨x, hx⟩ : ∃ x, x = wordOf d no j := ⟨_, rfl⟩
      rw [← hx] at hwl hr HW
      have HX := Lib.hid hx
      have HR := Lib.hid hr
      have HT := Lib.hid (fun W' => rTake_any (x : Int) n (by omega) (by omega) (by omega) (by omega) W')
      rw [← hr] at HT
      clear hx hr
      go_wp2_with (refine load_dig rfl _ rfl d hd hD rfl ?_)
      refine (HW.out wr).mono ?_
      rintro e w2 ⟨rfl, hb2⟩
      have hD2 := hD.below hb2 hD.lt
      have hB2 := hB.trans (hb2.mono hB.size)
      clear hD hB hb2
      go_wp2_with fail
      refine (HT.out w2).mono ?_
      rintro e w3 ⟨rfl, rfl⟩
      simp only [takeV]
      cases ok
      · go_wp2_with fail
        go_roundw
        case rel =>
          refine ⟨j + 1, by omega, by go_num, fun y hy => ?_, hD2, hB2⟩
          rw [wordsOf_succ] at hy
          rcases List.mem_append.1 hy with h | h
          · exact HP.out y h
          · obtain rfl : y = ⟨wordOf d no j, wordOf_lt d no j⟩ := by simpa using h
            show (takeOf ((wordOf d no j : Nat) : Int) n).2.1 = false
            rw [← HX.out, ← HR.out]
        case measure => simp [intOf]; omega
      · go_wp2_with fail
        go_ret2
        refine ⟨?_, hB2⟩
        obtain ⟨r, hr⟩ := wordsOf_prefix d no (j + 1) 64 (by omega)
        have e : firstOf n (wordsOf d no 64) = v := by
          rw [← hr, wordsOf_succ, List.append_assoc, List.singleton_append, firstOf_at n _ (by show (takeOf ((wordOf d no j : Nat) : Int) n).2.1 = true; rw [← HX.out, ← HR.out]) r _ HP.out]
          show (takeOf ((wordOf d no j : Nat) : Int) n).1 = v
          rw [← HX.out, ← HR.out]
        rw [e]
        rfl
    · obtain rfl : j = 64 := by omega
      have e : firstOf n (wordsOf d no 64) = 0 := firstOf_none n _ HP.out
      go_wp2_with fail
      go_ret2
      refine ⟨?_, hB⟩
      rw [e]
      rfl
set_option maxRecDepth 100000 in
set_option maxHeartbeats 1000000 in
theorem rnumber_bad (d : List UInt8) (no n : Int) (h : no < 0 ∨ 1099511627776 < no ∨ n < 1 ∨ 4096 < n) (w : World) :
    Calls Tryd.prog 30 #[.agg (dig d), .int .i64 no, .int .i64 n] w (Ret (numV (0, 1)) w) := by
  by_cases c1 : no < 0
  · clear h
    go_enter Tryd.func30, Tryd.ntmps30
    go_wp2
    go_ret2
    exact ⟨rfl, (Below.refl _ w).alloc (Nat.le_refl _) _⟩
  by_cases c2 : 1099511627776 < no
  · clear h
    go_enter Tryd.func30, Tryd.ntmps30
    go_wp2
    go_ret2
    exact ⟨rfl, (Below.refl _ w).alloc (Nat.le_refl _) _⟩
  by_cases c3 : n < 1
  · clear h
    go_enter Tryd.func30, Tryd.ntmps30
    go_wp2
    go_ret2
    exact ⟨rfl, (Below.refl _ w).alloc (Nat.le_refl _) _⟩
  · have c4 : 4096 < n := by omega
    clear h
    go_enter Tryd.func30, Tryd.ntmps30
    go_wp2
    go_ret2
    exact ⟨rfl, (Below.refl _ w).alloc (Nat.le_refl _) _⟩
theorem rNumber_any (d : List UInt8) (hd : d.length = 32) (no n : Int) (w : World) :
    Calls Tryd.prog 30 #[.agg (dig d), .int .i64 no, .int .i64 n] w (Ret (numV (numberOf d no n)) w) := by
  by_cases h : no < 0 ∨ 1099511627776 < no ∨ n < 1 ∨ 4096 < n
  · rw [numberOf, if_pos h]
    exact rnumber_bad d no n h w
  · rw [numberOf, if_neg h]
    obtain ⟨a, rfl⟩ : ∃ a : Nat, no = a := ⟨no.toNat, by omega⟩
    obtain ⟨b, rfl⟩ : ∃ b : Nat, n = b := ⟨n.toNat, by omega⟩
    exact rnumber_good d hd a b (by omega) (by omega) (by omega) w

set_option maxRecDepth 100000 in
set_option maxHeartbeats 1000000 in
theorem few_any (n : Int) (w : World) : Calls Tryd.prog 31 #[.int .i64 n] w (fun e w' => e = .returned (.bool (decide (n ≤ 40 ∨ 4096 < n))) ∧ w = w') := by
  by_cases c1 : n ≤ 40
  · rw [decide_eq_true (.inl c1)]
    go_enter Tryd.func31, Tryd.ntmps31
    go_wp2
    go_ret
    exact ⟨rfl, rfl⟩
  by_cases c2 : 4096 < n
  · rw [decide_eq_true (.inr c2)]
    go_enter Tryd.func31, Tryd.ntmps31
    go_wp2
    go_ret
    exact ⟨rfl, rfl⟩
  · rw [decide_eq_false (by omega)]
    go_enter Tryd.func31, Tryd.ntmps31
    go_wp2
    go_ret
    exact ⟨rfl, rfl⟩

theorem IOwn.empty_new (w : World) (base : Nat) (hb : base ≤ w.heap.size) : IOwn (w.alloc (.cells #[] 3)) base (.slice (some ⟨w.heap.size, 0, none⟩) 0 0) [] :=
  World.ownsRow_made w (e := 3) (size := 1) (base := base) #[] 0 hb (by simp only [maxLen]; omega) (by simp)
set_option maxRecDepth 100000 in
set_option maxHeartbeats 4000000 in
theorem rorder_good (d : List UInt8) (hd : d.length = 32) (n : Nat) (hn : n ≤ 4096) (w : World) :
    Calls Tryd.prog 33 #[.agg (dig d), .int .i64 n] w (OrderPost d n w) := by
  have hO0 := IOwn.empty_new (w.alloc (.cells (dig d) 23)) (w.heap.size + 1) (by simp)
  simp only [World.size_alloc] at hO0
  go_enter Tryd.func33, Tryd.ntmps33
  go_wp2_with fail
  go_loopw [6, 7] (fun v x wr => ORel w d n x v wr) (fun _ x _ => n - (intOf x).toNat)
  case atStart => exact ⟨0, by omega, rfl, hO0, (Blk.new _ _ _).alloc _, ((Below.refl _ w).alloc (Nat.le_refl _) _).alloc (by simp) _⟩
  case round =>
    clear hO0
    obtain ⟨j, hj, rfl, hown, hD, hB⟩ := hrel
    have hlt0 := hD.lt
    by_cases hlt : j < n
    · have hO1 := hown.alloc (.cells #[.int .i64 j] 3)
      have hlen : (iota j).length = j := iota_length j
      go_wp2_with (at_builtin; refine app_int rfl _ _ rfl (w.heap.size + 1) u6 _ rfl hO1 j (Blk.new _ _ _) rfl (by omega) (by simp; omega) ?_; intro v2 w2 hown2 hg2)
      go_roundw
      case rel =>
        have hg := hg2.alloc_first
        refine ⟨j + 1, by omega, by go_num, by rw [iota_succ]; exact hown2, hD.grown hg.1 (fun e => by have := (World.ownsRow.lt hown _ e.symm).1; omega), hB.trans (hg.below hB.size fun k hk => by have := (World.ownsRow.lt hown _ hk).1; omega)⟩
      case measure => simp [intOf]; omega
    · obtain rfl : j = n := by omega
      go_wp2_with fail
      have hst := ORel2.start hown hD hB
      clear hown hD hB hlt hlt0
      go_loopw [8] (fun x wr => ORel2 w d j u6 x wr) (fun x _ => (intOf x).toNat)
      case atStart => exact hst
      case round =>
        clear hst
        obtain ⟨i, L, hx, hin, hown, hLn, hs, hD, hB⟩ := hrel
        by_cases hi : 0 < i
        · obtain rfl : u8 = .int .i64 i := by
            rcases hx with h | h
            · exact h
            · omega
          have hij : i < j := by omega
          have hkle := pick_le d i
          have hpc := pick_cast d i
          have hNN := Lib.hid (fun W => rNumber_any d hd i ((i : Int) + 1) W)
          clear hx hin
          go_wp2_with (refine load_dig rfl _ rfl d hd hD rfl ?_)
          obtain ⟨er, her⟩ : ∃ er, numV (numberOf d i ((i : Int) + 1)) = .tuple #[.int .i64 ((pick d i : Nat) : Int), .int .i64 er] := ⟨_, by rw [hpc]; rfl⟩
          rw [her] at hNN
          obtain ⟨k, hk⟩ : ∃ k, k = pick d i := ⟨_, rfl⟩
          rw [← hk] at hNN hkle
          have HK := Lib.hid hk
          clear her hk hpc
          refine (hNN.out wr).mono ?_
          rintro e w2 ⟨rfl, hb2⟩
          have hown2 := hown.below hb2
          have hD2 := hD.below hb2 hD.lt
          have hB2 := hB.trans (hb2.mono hB.size)
          clear hown hD hB hb2 hNN
          obtain ⟨g, c, rfl, hlc, hrow⟩ := hown2.row hLn (by omega)
          clear hown2
          have HS := Lib.hid (fun x hx u v hu hv => ORel2.swap hrow hLn hi hij hs hD2 hB2 x hx k HK.out u v hu hv)
          have ci : w2.cell? ⟨g, i, none⟩ = some (.int .i64 (L.getD i 0)) := (World.ownsRow.cellAt hrow i (by omega)).trans (icells_get L i (by omega))
          have ck : w2.cell? ⟨g, k, none⟩ = some (.int .i64 (L.getD k 0)) := (World.ownsRow.cellAt hrow k (by omega)).trans (icells_get L k (by omega))
          have fi := World.ownsRow.frozenAt hrow i
          have fk := World.ownsRow.frozenAt hrow k
          clear hrow hD2 hB2
          obtain ⟨li, hli⟩ : ∃ li, li = L.getD i 0 := ⟨_, rfl⟩
          obtain ⟨lk, hlk⟩ : ∃ lk, lk = L.getD k 0 := ⟨_, rfl⟩
          rw [← hli] at ci
          rw [← hlk] at ck
          have HLI := Lib.hid hli
          have HLK := Lib.hid hlk
          clear hli hlk
          go_wp2_with fail
          have hkj : k < j := by omega
          obtain ⟨_, c15⟩ := cell?_setCell_some (p := ⟨g, i, none⟩) (x := .int .i64 lk) ck
          go_region
          clear ci ck fi fk c15
          go_wp2_with fail
          go_roundw
          case rel => exact (HS.out _ rfl (.int .i64 lk) (.int .i64 li) (by rw [HLK.out]) (by rw [HLI.out])).drew
          case measure => simp [intOf]; omega
        · obtain ⟨A, c, rfl, -⟩ := hown.shape
          have ho : i = 0 := by omega
          subst ho
          rcases hx with rfl | ⟨-, rfl⟩
          all_goals
            go_wp2
            go_ret2
            refine ⟨_, rfl, ?_, hB⟩
            have ho2 : L = orderOf d j := hs
            rw [← ho2]
            have h4 := own_weaken hown (Nat.le_succ _)
            rw [hLn] at h4
            show World.ownsRow wr w.heap.size 3 1 _ L.length (icells L)
            rw [hLn]
            exact h4
set_option maxRecDepth 100000 in
set_option maxHeartbeats 1000000 in
theorem rorder_bad (d : List UInt8) (n : Int) (h : n < 0 ∨ 4096 < n) (w : World) : Calls Tryd.prog 33 #[.agg (dig d), .int .i64 n] w (BadPost w) := by
  by_cases c1 : n < 0
  · clear h
    go_enter Tryd.func33, Tryd.ntmps33
    go_wp2
    go_ret2
    exact ⟨rfl, (Below.refl _ w).alloc (Nat.le_refl _) _⟩
  · have c2 : 4096 < n := by omega
    clear h
    go_enter Tryd.func33, Tryd.ntmps33
    go_wp2
    go_ret2
    exact ⟨rfl, (Below.refl _ w).alloc (Nat.le_refl _) _⟩
end Go.Proofs.YtibnikokgbfcdaaDoor

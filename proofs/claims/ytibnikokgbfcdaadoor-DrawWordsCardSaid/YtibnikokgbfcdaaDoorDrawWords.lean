/- The law podiumlaw32.DrawWords: for all digests and numbers she returns true. -/
import Derived.Test.YtibnikokgbfcdaaDoorR8
import Derived.BigQuiet
namespace Go.Proofs.YtibnikokgbfcdaaDoor
open Go.RowKit

set_option maxRecDepth 100000 in
set_option maxHeartbeats 4000000 in
theorem drawWords_good (d : List UInt8) (hd : d.length = 32) (no n : Nat) (hno : no ≤ 1099511627776) (hn0 : 1 ≤ n) (hn1 : n ≤ 4096) (w : World) (hL : Laid w) :
    Calls Tryd.prog 8 #[.agg (dig d), .int .i64 no, .int .i64 n] w (Ret (.bool true) w) := by
  have HS := Lib.hid (fun W h => sane32_ok W h)
  have hN := fun W h => number_any d hd (no : Int) (n : Int) W h
  rw [show numberOf d (no : Int) (n : Int) = (firstOf n (wordsOf d no 64), 0) by rw [numberOf, if_neg (by omega), Int.toNat_natCast]] at hN
  have HN := Lib.hid hN
  have hrange := firstOf_range (n : Int) (by omega) (wordsOf d no 64)
  have HL := Lib.hid hL
  obtain ⟨V, hV⟩ : ∃ V, V = firstOf n (wordsOf d no 64) := ⟨_, rfl⟩
  rw [← hV] at HN hrange
  obtain ⟨hV0, hV1⟩ := hrange
  have HV := Lib.hid hV
  clear hL hN hV
  go_enter Tryd.func8, Tryd.ntmps8
  go_wp2_with fail
  have hD0 : Blk (w.alloc (.cells (dig d) 23)) w.heap.size 23 (dig d) := Blk.new _ _ _
  have hB0 : Below w.heap.size w (w.alloc (.cells (dig d) 23)) := (Below.refl _ w).alloc (Nat.le_refl _) _
  generalize w.alloc (.cells (dig d) 23) = w0 at hD0 hB0 ⊢
  refine (HS.out _ (HL.out.below hB0)).mono ?_
  rintro e w1 ⟨rfl, hb1⟩
  have hD1 := hD0.below hb1 hD0.lt
  have hB1 := hB0.trans (hb1.mono hB0.size)
  clear hD0 hB0 hb1
  go_wp2_with (refine load_dig rfl _ rfl d hd hD1 rfl ?_)
  refine (HN.out _ (HL.out.below hB1)).mono ?_
  rintro e w2 ⟨rfl, hb2⟩
  have hD2 := hD1.below hb2 hD1.lt
  have hB2 := hB1.trans (hb2.mono hB1.size)
  clear hD1 hB1 hb2
  simp only [numV]
  go_wp2_with fail
  go_loopw [53] (fun x wr => ∃ j : Nat, j ≤ 64 ∧ x = .int .i64 j ∧ (∀ y ∈ wordsOf d no j, (takeOf (y.1 : Int) n).2.1 = false) ∧ Blk wr w.heap.size 23 (dig d) ∧ Below w.heap.size w wr) (fun x _ => 64 - (intOf x).toNat)
  case atStart => exact ⟨0, by omega, rfl, by simp [wordsOf], hD2, hB2⟩
  case round =>
    clear hD2 hB2
    obtain ⟨j, hj, rfl, hp, hD, hB⟩ := hrel
    have HP := Lib.hid hp
    clear hp
    by_cases hlt : j < 64
    · have hwl := wordOf_lt d no j
      have hter : (takeOf ((wordOf d no j : Nat) : Int) n).2.2 = 0 := by
        unfold takeOf
        rw [if_neg (by omega)]
        split <;> rfl
      obtain ⟨⟨v, ok, er⟩, hr⟩ : ∃ r, r = takeOf ((wordOf d no j : Nat) : Int) n := ⟨_, rfl⟩
      rw [← hr] at hter
      obtain rfl : er = 0 := hter
      have HW := Lib.hid (fun W => rWord_any d hd no j hno (by omega) W)
      obtain ⟨x, hx⟩ : ∃ x, x = wordOf d no j := ⟨_, rfl⟩
      rw [← hx] at hwl hr HW
      have HX := Lib.hid hx
      have HR := Lib.hid hr
      have HT := Lib.hid (fun W' => take_any (x : Int) n (by omega) (by omega) (by omega) (by omega) W')
      rw [← hr] at HT
      clear hx hr
      go_wp2_with (refine load_dig rfl _ rfl d hd hD rfl ?_)
      refine (HW.out wr).mono ?_
      rintro e w2 ⟨rfl, hb2⟩
      have hD2 := hD.below hb2 hD.lt
      have hB2 := hB.trans (hb2.mono hB.size)
      clear hD hB hb2
      go_wp2_with fail
      refine (HT.out w2).mono ?_
      rintro e w3 ⟨rfl, rfl⟩
      simp only [takeV]
      cases ok
      · go_wp2_with fail
        go_roundw
        case rel =>
          refine ⟨j + 1, by omega, by go_num, fun y hy => ?_, hD2, hB2⟩
          rw [wordsOf_succ] at hy
          rcases List.mem_append.1 hy with h | h
          · exact HP.out y h
          · obtain rfl : y = ⟨wordOf d no j, wordOf_lt d no j⟩ := by simpa using h
            show (takeOf ((wordOf d no j : Nat) : Int) n).2.1 = false
            rw [← HX.out, ← HR.out]
        case measure => simp [intOf]; omega
      · have e : V = v := by
          obtain ⟨r, hr⟩ := wordsOf_prefix d no (j + 1) 64 (by omega)
          rw [HV.out, ← hr, wordsOf_succ, List.append_assoc, List.singleton_append, firstOf_at n _ (by show (takeOf ((wordOf d no j : Nat) : Int) n).2.1 = true; rw [← HX.out, ← HR.out]) r _ HP.out]
          show (takeOf ((wordOf d no j : Nat) : Int) n).1 = v
          rw [← HX.out, ← HR.out]
        subst e
        go_wp2_with fail
        go_ret
        exact ⟨rfl, hB2⟩
    · obtain rfl : j = 64 := by omega
      have e : V = 0 := by rw [HV.out]; exact firstOf_none n _ HP.out
      subst e
      go_wp2_with fail
      go_ret
      exact ⟨rfl, hB⟩
set_option maxRecDepth 100000 in
set_option maxHeartbeats 4000000 in
theorem drawWords_bad (d : List UInt8) (hd : d.length = 32) (no n : Int) (h : no < 0 ∨ 1099511627776 < no ∨ n < 1 ∨ 4096 < n) (w : World) (hL : Laid w) :
    Calls Tryd.prog 8 #[.agg (dig d), .int .i64 no, .int .i64 n] w (Ret (.bool true) w) := by
  have HS := Lib.hid (fun W h => sane32_ok W h)
  have HN := Lib.hid (fun W => number_bad d no n h W)
  have HL := Lib.hid hL
  clear hL
  have key : ∀ (Q : Prop), (no < 0 → Q) → (¬ no < 0 → 1099511627776 < no → Q) → (¬ no < 0 → ¬ 1099511627776 < no → n < 1 → Q) → (¬ no < 0 → ¬ 1099511627776 < no → ¬ n < 1 → 4096 < n → Q) → Q := fun Q h1 h2 h3 h4 => by
    by_cases c1 : no < 0
    · exact h1 c1
    by_cases c2 : 1099511627776 < no
    · exact h2 c1 c2
    by_cases c3 : n < 1
    · exact h3 c1 c2 c3
    · exact h4 c1 c2 c3 (by omega)
  clear h
  refine key _ ?_ ?_ ?_ ?_ <;> clear key <;> intros
  all_goals
    go_enter Tryd.func8, Tryd.ntmps8
    go_wp2_with fail
    have hD0 : Blk (w.alloc (.cells (dig d) 23)) w.heap.size 23 (dig d) := Blk.new _ _ _
    have hB0 : Below w.heap.size w (w.alloc (.cells (dig d) 23)) := (Below.refl _ w).alloc (Nat.le_refl _) _
    generalize w.alloc (.cells (dig d) 23) = w0 at hD0 hB0 ⊢
    refine (HS.out _ (HL.out.below hB0)).mono ?_
    rintro e w1 ⟨rfl, hb1⟩
    have hD1 := hD0.below hb1 hD0.lt
    have hB1 := hB0.trans (hb1.mono hB0.size)
    clear hD0 hB0 hb1
    go_wp2_with (refine load_dig rfl _ rfl d hd hD1 rfl ?_)
    refine (HN.out _).mono ?_
    rintro e w2 ⟨rfl, hb2⟩
    have hB2 := hB1.trans (hb2.mono hB1.size)
    clear hD1 hB1 hb2
    simp only [numV]
    go_wp2_with fail
    go_ret
    exact ⟨rfl, hB2⟩
theorem drawWords_any (d : List UInt8) (hd : d.length = 32) (no n : Int) (w : World) (hL : Laid w) : Calls Tryd.prog 8 #[.agg (dig d), .int .i64 no, .int .i64 n] w (Ret (.bool true) w) := by
  by_cases h : no < 0 ∨ 1099511627776 < no ∨ n < 1 ∨ 4096 < n
  · exact drawWords_bad d hd no n h w hL
  · obtain ⟨a, rfl⟩ : ∃ a : Nat, no = a := ⟨no.toNat, by omega⟩
    obtain ⟨b, rfl⟩ : ∃ b : Nat, n = b := ⟨n.toNat, by omega⟩
    exact drawWords_good d hd a b (by omega) (by omega) (by omega) w hL
end Go.Proofs.YtibnikokgbfcdaaDoor

/- The law podiumlaw32.DrawSpec: for all words, digests and numbers she returns true. -/
import Derived.Test.YtibnikokgbfcdaaDoorR8
import Derived.BigQuiet
namespace Go.Proofs.YtibnikokgbfcdaaDoor
open Go.RowKit

theorem int_range {a : Int} (h : (Lit.int .i64 a).wf = true) : -9223372036854775808 ≤ a ∧ a < 9223372036854775808 := by
  simp only [Lit.wf, Bool.and_eq_true, decide_eq_true_eq] at h
  have h1 : -9223372036854775808 ≤ a := h.1
  have h2 : a ≤ 9223372036854775807 := h.2
  omega
set_option maxRecDepth 100000 in
set_option maxHeartbeats 4000000 in
theorem drawSpec_any (d : List UInt8) (hd : d.length = 32) (word : Int) (hw : -9223372036854775808 ≤ word ∧ word < 9223372036854775808) (no n : Int) (hn : -9223372036854775808 ≤ n ∧ n < 9223372036854775808) (w : World) (hL : Laid w) :
    Calls Tryd.prog 3 #[.agg (dig d), .int .i64 word, .int .i64 no, .int .i64 n] w (Ret (.bool true) w) := by
  have HS := Lib.hid (fun W h => sane32_ok W h)
  have HT := Lib.hid (fun W => take_any word n hw.1 hw.2 hn.1 hn.2 W)
  have HT2 := Lib.hid (fun W => rTake_any word n hw.1 hw.2 hn.1 hn.2 W)
  have HN := Lib.hid (fun W h => number_any d hd no n W h)
  have HN2 := Lib.hid (fun W => rNumber_any d hd no n W)
  have HL := Lib.hid hL
  obtain ⟨⟨tv, tok, ter⟩, htk⟩ : ∃ r, r = takeOf word n := ⟨_, rfl⟩
  obtain ⟨⟨nv, ner⟩, hnk⟩ : ∃ r, r = numberOf d no n := ⟨_, rfl⟩
  rw [← htk] at HT HT2
  rw [← hnk] at HN HN2
  clear hL hw hn htk hnk
  go_enter Tryd.func3, Tryd.ntmps3
  go_wp2_with fail
  have hD0 : Blk (w.alloc (.cells (dig d) 23)) w.heap.size 23 (dig d) := Blk.new _ _ _
  have hB0 : Below w.heap.size w (w.alloc (.cells (dig d) 23)) := (Below.refl _ w).alloc (Nat.le_refl _) _
  generalize w.alloc (.cells (dig d) 23) = w0 at hD0 hB0 ⊢
  refine (HS.out _ (HL.out.below hB0)).mono ?_
  rintro e w1 ⟨rfl, hb1⟩
  have hD1 := hD0.below hb1 hD0.lt
  have hB1 := hB0.trans (hb1.mono hB0.size)
  clear hD0 hB0 hb1
  go_wp2_with fail
  refine (HT.out _).mono ?_
  rintro e w2 ⟨rfl, rfl⟩
  simp only [takeV]
  go_wp2_with fail
  refine (HT2.out _).mono ?_
  rintro e w2 ⟨rfl, rfl⟩
  simp only [takeV]
  go_wp2_with (refine load_dig rfl _ rfl d hd hD1 rfl ?_)
  refine (HN.out _ (HL.out.below hB1)).mono ?_
  rintro e w2 ⟨rfl, hb2⟩
  have hD2 := hD1.below hb2 hD1.lt
  have hB2 := hB1.trans (hb2.mono hB1.size)
  clear hD1 hB1 hb2
  simp only [numV]
  go_wp2_with (refine load_dig rfl _ rfl d hd hD2 rfl ?_)
  refine (HN2.out _).mono ?_
  rintro e w3 ⟨rfl, hb3⟩
  have hB3 := hB2.trans (hb3.mono hB2.size)
  clear hD2 hB2 hb3
  simp only [numV]
  go_wp2_with fail
  go_ret
  refine ⟨?_, hB3⟩
  cases tok <;> rfl
end Go.Proofs.YtibnikokgbfcdaaDoor

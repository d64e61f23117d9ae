/- Plain facts for the examples of the chapter chain; contracts of chain.Add where it adds and where it refuses. -/
import Derived.Test.YtibnikokgbfcdaaDoorC13
import Derived.Test.YtibnikokgbfcdaaDoorChQ
namespace Go.Proofs.YtibnikokgbfcdaaDoor
open Go Go.RowKit

def AddOk (l : List Lk) (node : Int) (d : List UInt8) (k : Nat) (w : World) (e : Ending) (w' : World) : Prop :=
  ∃ B c, e = .returned (.tuple #[.slice B k c, .int .i64 0]) ∧ k ≤ c ∧ c ≤ 9223372036854775807 ∧ LRd w' w'.heap.size B (addL l node d) ∧ Below w.heap.size w w'
theorem add_ok (A D : Option Addr) (l : List Lk) (node : Int) (d : List UInt8) (n c dn dc k : Nat) (hn : n = l.length) (hk : k = n + 1) (hnc : n ≤ c) (hcc : c ≤ 9223372036854775807) (hdn : dn = d.length) (hdl : dn ≤ 9223372036854775807) (hDn : D = none → dn = 0 ∧ dc = 0) (w : World) (hL : Laid w) (hA : LRd w w.heap.size A l) (hD : RdB w w.heap.size D d)
    (hd : ∀ y, y < l.length → (l.getD y lk0).data.length ≤ 4611686018427387903) (h0 : addErr l node d.length = 0) : Calls Tryd.prog 39 #[.slice A n c, .int .i64 node, .slice D dn dc] w (AddOk l node d k w) :=
  (add_any A D l node d n c dn dc hn hnc hcc hdn hdl hDn w hL hA hD hd).mono fun e w' h => by
    rcases h with ⟨-, B, c', h1, h2, h3, h4, h5⟩ | ⟨h1, -⟩
    · exact ⟨B, c', by rw [h1, hk, hn], by rw [hk, hn]; exact h2, h3, h4, h5⟩
    · exact absurd h0 h1
theorem add_no (A D : Option Addr) (l : List Lk) (node : Int) (d : List UInt8) (n c dn dc : Nat) (E : Int) (hn : n = l.length) (hnc : n ≤ c) (hcc : c ≤ 9223372036854775807) (hdn : dn = d.length) (hdl : dn ≤ 9223372036854775807) (hDn : D = none → dn = 0 ∧ dc = 0) (w : World) (hL : Laid w) (hA : LRd w w.heap.size A l) (hD : RdB w w.heap.size D d)
    (hd : ∀ y, y < l.length → (l.getD y lk0).data.length ≤ 4611686018427387903) (h0 : addErr l node d.length = E) (hE : E ≠ 0) : Calls Tryd.prog 39 #[.slice A n c, .int .i64 node, .slice D dn dc] w (Ret (.tuple #[.slice none 0 0, .int .i64 E]) w) :=
  (add_any A D l node d n c dn dc hn hnc hcc hdn hdl hDn w hL hA hD hd).mono fun e w' h => by
    rcases h with ⟨h1, -⟩ | ⟨-, h2, h3⟩
    · exact absurd (h0.symm.trans h1) hE
    · exact ⟨by rw [h2, h0], h3⟩
noncomputable def laS : List Lk := addL [] 3 [120]
noncomputable def lbS : List Lk := addL laS 3 [121]
noncomputable def lcS : List Lk := addL laS 3 [122]
theorem laS_len : laS.length = 1 := rfl
theorem lbS_len : lbS.length = 2 := rfl
theorem lcS_len : lcS.length = 2 := rfl
theorem laS_get : laS.getD 0 lk0 = ⟨3, 0, headOf [], [120]⟩ := rfl
theorem lbS_0 : lbS.getD 0 lk0 = ⟨3, 0, headOf [], [120]⟩ := rfl
theorem lbS_1 : lbS.getD 1 lk0 = ⟨3, 1, headOf laS, [121]⟩ := rfl
theorem lcS_1 : lcS.getD 1 lk0 = ⟨3, 1, headOf laS, [122]⟩ := rfl
theorem laS_ok : chkOk laS := chkOk_add chkOk_nil (by decide) (by decide) (fun h => absurd rfl h) (by decide)
theorem lbS_ok : chkOk lbS := chkOk_add laS_ok (by decide) (by decide) (fun _ => rfl) (by decide)
theorem lcS_ok : chkOk lcS := chkOk_add laS_ok (by decide) (by decide) (fun _ => rfl) (by decide)
theorem nil_chk : chkOf [] = 0 := chkOf_ok chkOk_nil (by decide)
theorem laS_chk : chkOf laS = 0 := chkOf_ok laS_ok (by rw [laS_len]; decide)
theorem lbS_chk : chkOf lbS = 0 := chkOf_ok lbS_ok (by rw [lbS_len]; decide)
theorem lcS_chk : chkOf lcS = 0 := chkOf_ok lcS_ok (by rw [lcS_len]; decide)
theorem addErr_nil (n : Nat) (hn : n ≤ 65536) : addErr [] 3 n = 0 := by
  rw [addErr, nil_chk, if_neg (by decide), if_neg (fun h => by rcases h with h | h | ⟨h, -⟩ | h <;> first | omega | (exact absurd h (by simp))), if_neg (by decide)]
theorem addErr_la (n : Nat) (hn : n ≤ 65536) : addErr laS 3 n = 0 := by
  rw [addErr, laS_chk, if_neg (by decide), if_neg (fun h => by rcases h with h | h | ⟨-, h⟩ | h <;> first | omega | (exact absurd rfl h)), if_neg (by rw [laS_len]; decide)]
theorem addErr_24 : addErr [] 24 0 = 1 := by rw [addErr, nil_chk, if_neg (by decide), if_pos (.inr (.inl (by decide)))]
theorem addErr_4 : addErr laS 4 0 = 1 := by
  rw [addErr, laS_chk, if_neg (by decide), if_pos (.inr (.inr (.inl ⟨by rw [laS_len]; decide, by rw [laS_get]; decide⟩)))]
theorem diff_bc : diffAt lbS lcS = some 1 := by
  refine diffAt_some (k := 1) (by rw [lbS_len, lcS_len]; decide) (fun j hj => ?_) ?_
  · obtain rfl : j = 0 := by omega
    rfl
  · rw [lbS_1, lcS_1]
    intro e
    exact absurd (Lk.mk.inj e).2.2.2 (by decide)
theorem diff_ab : diffAt laS lbS = none := diffAt_none (fun j hj => by
  rw [laS_len, lbS_len] at hj
  obtain rfl : j = 0 := by omega
  rfl)
theorem diff_na : diffAt [] laS = none := diffAt_none (fun j hj => by simp at hj)
theorem part_bc : partOf lbS lcS = (1, true, 0) := by
  rw [partOf, lbS_chk, lcS_chk, if_neg (by decide), if_neg (by decide), if_neg (fun h => h.2.2 rfl), diff_bc]
  rfl
theorem part_ab : partOf laS lbS = (0, false, 0) := by
  rw [partOf, laS_chk, lbS_chk, if_neg (by decide), if_neg (by decide), if_neg (fun h => h.2.2 rfl), diff_ab]
theorem part_na : partOf [] laS = (0, false, 0) := by
  rw [partOf, nil_chk, laS_chk, if_neg (by decide), if_neg (by decide), if_neg (fun h => absurd h.1 (by decide)), diff_na]
def lzS : List Lk := [⟨0, 1, zd, []⟩]
theorem lzS_chk : chkOf lzS = 80 := by
  rw [chkOf, if_neg (by decide), if_neg]
  intro h
  have := (h 0 (by decide)).2.2.2.1
  exact absurd this (by decide)
theorem drop_chk : chkOf (lbS.drop 1) = 80 := by
  rw [chkOf, if_neg (by rw [List.length_drop, lbS_len]; decide), if_neg]
  intro h
  have := (h 0 (by rw [List.length_drop, lbS_len]; decide)).2.2.2.1
  exact absurd (show (1 : Int) = 0 from this) (by decide)
theorem head_nil : headOf [] = tagged noneTag [] := rfl
theorem head_la : headOf laS = tagged linkTag ([3, 4, 1, 6, 1, 0, 2, 32] ++ headOf [] ++ [2, 1, 120]) := by
  show tagged linkTag (linkText ⟨3, 0, headOf [], [120]⟩) = _
  congr 1
  have h1 : numB 4 = [4] := by rw [numB_small _ (by decide)]; rfl
  have h2 : numB 6 = [6] := by rw [numB_small _ (by decide)]; rfl
  have h3 : numB 0 = [0] := by rw [numB_small _ (by decide)]; rfl
  have h4 : numB 32 = [32] := by rw [numB_small _ (by decide)]; rfl
  have h5 : numB 1 = [1] := by rw [numB_small _ (by decide)]; rfl
  have hl : (headOf []).length = 32 := headOf_length _
  show 3 :: (numB 4 ++ [intB 3, intB 0, textB (headOf []), textB [120]].flatten) = _
  simp only [intB, textB, hl, h1, List.flatten_cons, List.flatten_nil, List.length_cons, List.length_nil]
  rw [show 2 * 3 = 6 from rfl, show 2 * 0 = 0 from rfl, show 0 + 1 = 1 from rfl, h2, h3, h4, h5]
  simp
/-- The data of such links are few. -/
theorem few_data {l : List Lk} (h : chkOk l) : ∀ y, y < l.length → (l.getD y lk0).data.length ≤ 4611686018427387903 := fun y hy => by
  have := (h y hy).2.2.2.2.1
  omega
end Go.Proofs.YtibnikokgbfcdaaDoor

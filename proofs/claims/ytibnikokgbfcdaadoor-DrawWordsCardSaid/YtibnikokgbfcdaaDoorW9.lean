/- Walk: codec.formed. -/
import Derived.Test.YtibnikokgbfcdaaDoorW8
namespace Go.Proofs.YtibnikokgbfcdaaDoor
open Go.RowKit

def FormedPost (d : Nat) (w : World) (e : Ending) (w' : World) : Prop := (∃ d' : Nat, d' ≤ d ∧ e = .returned (.tuple #[.int .i64 d', .bool true])) ∧ Below w.heap.size w w'
set_option maxRecDepth 100000 in
set_option maxHeartbeats 1000000 in
theorem formed_int (k : Nat) (w : World) : Calls Tryd.prog 121 #[.agg #[.int .i64 1, .int .i64 k, .string ⟨#[]⟩, .slice none 0 0]] w (FormedPost 0 w) := by
  go_enter Tryd.func121, Tryd.ntmps121
  go_wp2
  all_goals
    go_ret2
    exact ⟨⟨0, Nat.le_refl _, rfl⟩, ((Below.refl _ w).alloc (Nat.le_refl _) _).alloc (by simp) _⟩
set_option maxRecDepth 100000 in
set_option maxHeartbeats 1000000 in
theorem formed_text (s : ByteArray) (w : World) : Calls Tryd.prog 121 #[.agg #[.int .i64 2, .int .i64 0, .string s, .slice none 0 0]] w (FormedPost 0 w) := by
  go_enter Tryd.func121, Tryd.ntmps121
  go_wp2
  all_goals
    go_ret2
    exact ⟨⟨0, Nat.le_refl _, rfl⟩, ((Below.refl _ w).alloc (Nat.le_refl _) _).alloc (by simp) _⟩

/-- The four cells of a value: its kind and three more. -/
structure V4 where
  kind : Nat
  n : Value
  s : Value
  l : Value
def V4.agg (x : V4) : Value := .agg #[.int .i64 x.kind, x.n, x.s, x.l]
def V4.int (k : Nat) : V4 := ⟨1, .int .i64 k, .string ⟨#[]⟩, .slice none 0 0⟩
def V4.text (s : ByteArray) : V4 := ⟨2, .int .i64 0, .string s, .slice none 0 0⟩
def V4.list (A : Option Addr) (m c : Nat) : V4 := ⟨3, .int .i64 0, .string ⟨#[]⟩, .slice A m c⟩
/-- The slice at A holds these values. -/
def Elems (w : World) (B : Nat) (A : Option Addr) (l : List V4) : Prop :=
  0 < l.length → ∃ b off, A = some ⟨b, off, none⟩ ∧ b < B ∧ ∀ i x, l[i]? = some x →
    w.cell? ⟨b, off + i * 4, none⟩ = some (.int .i64 x.kind) ∧ w.cell? ⟨b, off + i * 4 + 1, none⟩ = some x.n ∧ w.cell? ⟨b, off + i * 4 + 2, none⟩ = some x.s ∧ w.cell? ⟨b, off + i * 4 + 3, none⟩ = some x.l
theorem Elems.below {w w' : World} {B : Nat} {A : Option Addr} {l : List V4} (h : Elems w B A l) (hb : Below B w w') : Elems w' B A l := fun hn => by
  obtain ⟨b, off, e, hB, hc⟩ := h hn
  refine ⟨b, off, e, hB, fun i x hi => ?_⟩
  obtain ⟨h0, h1, h2, h3⟩ := hc i x hi
  exact ⟨(hb.cell (p := ⟨b, _, none⟩) hB).trans h0, (hb.cell (p := ⟨b, _, none⟩) hB).trans h1, (hb.cell (p := ⟨b, _, none⟩) hB).trans h2, (hb.cell (p := ⟨b, _, none⟩) hB).trans h3⟩

theorem one4 (k : Int) (a b c : Value) (ha : a.oneCell' = true) (hb : b.oneCell' = true) (hc : c.oneCell' = true) : (#[.int .i64 k, a, b, c] : Array Value).all (·.oneCell') = true :=
  Array.all_eq_true_iff_forall_mem.2 fun v hv => by
    have hv' : v = .int .i64 k ∨ v = a ∨ v = b ∨ v = c := by simpa using hv
    rcases hv' with rfl | rfl | rfl | rfl
    · rfl
    · exact ha
    · exact hb
    · exact hc
theorem valueSize : (Tryd.prog.info? 93).map (·.size) = some 4 := by kernel_rfl
def IsFormed (w : World) (x : V4) (d : Nat) : Prop := ∀ w', Below w.heap.size w w' → Calls Tryd.prog 121 #[x.agg] w' (FormedPost d w')

set_option maxRecDepth 100000 in
set_option maxHeartbeats 1000000 in
theorem formed_list (A : Option Addr) (l : List V4) (c d : Nat) (w : World) (hE : Elems w w.heap.size A l) (hl : l.length ≤ c) (hc : c ≤ 9223372036854775807) (hd : d ≤ 1000000)
    (h1 : ∀ x ∈ l, x.n.oneCell' = true ∧ x.s.oneCell' = true ∧ x.l.oneCell' = true) (hf : ∀ x ∈ l, IsFormed w x d) :
    Calls Tryd.prog 121 #[(V4.list A l.length c).agg] w (FormedPost (d + 1) w) := by
  show Calls Tryd.prog 121 #[.agg #[.int .i64 3, .int .i64 0, .string ⟨#[]⟩, .slice A l.length c]] w (FormedPost (d + 1) w)
  obtain ⟨m, hm⟩ : ∃ m, m = l.length := ⟨_, rfl⟩
  rw [← hm] at hl ⊢
  have HM := Lib.hid hm
  have HF := Lib.hid hf
  have H1 := Lib.hid h1
  clear hm hf h1
  by_cases h0 : m = 0
  · subst h0
    clear hE hl hc hd
    go_enter Tryd.func121, Tryd.ntmps121
    go_wp2_with fail
    go_loop [2, 57] (fun D i => D = .int .i64 0 ∧ i = .int .i64 0) (fun _ _ => 0)
    case atStart => exact ⟨rfl, rfl⟩
    case round =>
      obtain ⟨rfl, rfl⟩ := hrel
      go_wp2_with fail
      go_ret2
      exact ⟨⟨1, by omega, rfl⟩, ((Below.refl _ w).alloc (Nat.le_refl _) _).alloc (by simp) _⟩
  · have hp : 0 < m := by omega
    clear h0
    obtain ⟨b, off, rfl, hbl, hcells⟩ := hE (by rw [← HM.out]; exact hp)
    have HE := Lib.hid hcells
    clear hcells hE
    go_enter Tryd.func121, Tryd.ntmps121
    go_wp2_with fail
    go_loopw [2, 57] (fun D i wr => ∃ j d' : Nat, j ≤ m ∧ i = .int .i64 j ∧ d' ≤ d ∧ D = .int .i64 d' ∧ Below w.heap.size w wr) (fun _ i _ => m - (intOf i).toNat)
    case atStart => exact ⟨0, 0, by omega, rfl, by omega, rfl, ((Below.refl _ w).alloc (Nat.le_refl _) _).alloc (by simp) _⟩
    case round =>
      obtain ⟨j, d', hj, rfl, hd', rfl, hB⟩ := hrel
      by_cases hlt : j < m
      · obtain ⟨x, hx⟩ : ∃ x, l[j]? = some x := ⟨_, List.getElem?_eq_getElem (by rw [← HM.out]; exact hlt)⟩
        obtain ⟨c0, c1, c2, c3⟩ := HE.out j x hx
        have c0' := (hB.cell (p := ⟨b, _, none⟩) hbl).trans c0
        have c1' := (hB.cell (p := ⟨b, _, none⟩) hbl).trans c1
        have c2' := (hB.cell (p := ⟨b, _, none⟩) hbl).trans c2
        have c3' := (hB.cell (p := ⟨b, _, none⟩) hbl).trans c3
        have hmem := List.mem_of_getElem? hx
        have hone : (#[.int .i64 x.kind, x.n, x.s, x.l] : Array Value).all (·.oneCell') = true := by
          have := H1.out x hmem
          exact one4 _ _ _ _ this.1 this.2.1 this.2.2
        have HO := Lib.hid hone
        have HX := Lib.hid hx
        clear c0 c1 c2 c3 hone hx
        go_wp2_with (refine wpList_store_new rfl 93 _ _ rfl wr _ #[.int .i64 x.kind, x.n, x.s, x.l] 93 rfl rfl valueSize rfl HO.out ?_)
        have hB1 := hB.alloc hB.size (.cells #[.int .i64 x.kind, x.n, x.s, x.l] 93)
        refine (HF.out x hmem _ hB1).mono ?_
        rintro e w2 ⟨⟨d2, hd2, rfl⟩, hb2⟩
        have hB2 := hB1.trans (hb2.mono hB1.size)
        clear c0' c1' c2' c3' hB1 hb2 hB
        go_wp2_with fail
        go_roundw
        case rel => exact ⟨j + 1, max d' d2, by omega, by go_num, by omega, by first | rfl | (congr 1; omega), hB2⟩
        case measure => simp [intOf]; omega
      · obtain rfl : j = m := by omega
        go_wp2_with fail
        go_ret2
        exact ⟨⟨d' + 1, by omega, rfl⟩, hB⟩
end Go.Proofs.YtibnikokgbfcdaaDoor

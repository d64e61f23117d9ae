/- A map from parties to digests that the call has made: how it reads. -/
import Derived.Test.YtibnikokgbfcdaaDoorB4
import Derived.Maps.OwnSet
import Derived.Maps.OwnIn
import Derived.Maps.Views
namespace Go.Proofs.YtibnikokgbfcdaaDoor
open Go Go.RowKit Go.Maps

theorem byteAt_inj {a b : List UInt8} {k : Nat} (ha : k < a.length) (hb : k < b.length) (h : byteAt a k = byteAt b k) : a[k]? = b[k]? := by
  simp only [byteAt, List.getD_eq_getElem?_getD, List.getElem?_eq_getElem ha, List.getElem?_eq_getElem hb, Option.getD_some] at h ⊢
  exact congrArg some (UInt8.toNat_inj.1 (by omega))
theorem dig_inj {a b : List UInt8} (h : dig a = dig b) : a = b := by
  have hl : a.length = b.length := by rw [← dig_size, ← dig_size, h]
  apply List.ext_getElem? fun k => ?_
  by_cases hk : k < a.length
  · have h1 := dig_get a k hk
    rw [h, dig_get b k (by omega)] at h1
    have h2 := Option.some.inj h1
    injection h2 with _ h3
    exact (byteAt_inj (by omega) hk h3).symm
  · rw [List.getElem?_eq_none (by omega), List.getElem?_eq_none (by omega)]
open Classical in
/-- How a digest in a map reads. -/
noncomputable def digR (v : Value) : Option (DataW Unit × List MemPlace) := if h : ∃ d : List UInt8, d.length = 32 ∧ v = .agg (dig d) then some (.lit (.string h.choose), []) else none
theorem digR_mk (d : List UInt8) (h : d.length = 32) : digR (.agg (dig d)) = some (.lit (.string d), []) := by
  have hx : ∃ d' : List UInt8, d'.length = 32 ∧ Value.agg (dig d) = .agg (dig d') := ⟨d, h, rfl⟩
  unfold digR
  rw [dif_pos hx]
  have h2 := hx.choose_spec.2
  injection h2 with h3
  rw [← dig_inj h3]
theorem digR_inv {v : Value} {z : DataW Unit × List MemPlace} (h : digR v = some z) : ∃ d : List UInt8, d.length = 32 ∧ v = .agg (dig d) ∧ z = (.lit (.string d), []) := by
  unfold digR at h
  split at h
  · rename_i hx
    exact ⟨hx.choose, hx.choose_spec.1, hx.choose_spec.2, (Option.some.inj h).symm⟩
  · cases h
theorem int_key : Keyed Tryd.prog 3 := int_keyed Tryd.underlying3
theorem key_int {a : Int} (h1 : -9223372036854775808 ≤ a) (h2 : a < 9223372036854775808) : keyOf Tryd.prog 3 (.int .i64 a) = some (.int .i64 a) :=
  keyOf_int_mk Tryd.underlying3 (by simp [Lit.wf, IntKind.min, IntKind.max, IntKind.signed, IntKind.bits]; omega)
/-- Block b is a map that holds, for each party, what f says. -/
def MapR (w : World) (b n : Nat) (f : Int → Option (List UInt8)) : Prop :=
  ∃ D : DataW Unit, w.ownsMap Tryd.prog 3 digR b n D ∧ ∀ a, has D (.int .i64 a) = (f a).isSome ∧ ∀ zd, D.atKey (.int .i64 a) zd = ((f a).map (fun d => DataW.lit (.string d))).getD zd
theorem MapR.made (w : World) : MapR (w.alloc (.map #[] 0)) w.heap.size 0 (fun _ => none) := ⟨.map [], World.ownsMap_made w _ _ _, fun _ => ⟨rfl, fun _ => rfl⟩⟩
theorem MapR.kept {w w' : World} {b n : Nat} {f : Int → Option (List UInt8)} {row : Option Nat} (h : MapR w b n f) (hg : w.grownBy w' row) (hne : some b ≠ row) : MapR w' b n f := by
  obtain ⟨D, h1, h2⟩ := h
  exact ⟨D, h1.kept hg hne, h2⟩
theorem MapR.lt {w : World} {b n : Nat} {f : Int → Option (List UInt8)} (h : MapR w b n f) : b < w.heap.size := by
  obtain ⟨D, h1, h2⟩ := h
  exact h1.lt
theorem MapR.below {w w' : World} {B b n : Nat} {f : Int → Option (List UInt8)} (h : MapR w b n f) (hb : Below B w w') (hB : b < B) : MapR w' b n f := by
  obtain ⟨D, ⟨es, clock, h1, h3⟩, h2⟩ := h
  exact ⟨D, ⟨es, clock, (hb.block b hB).trans h1, h3⟩, h2⟩
theorem MapR.mono {w : World} {b n n' : Nat} {f : Int → Option (List UInt8)} (h : MapR w b n f) (hn : n ≤ n') : MapR w b n' f := by
  obtain ⟨D, h1, h2⟩ := h
  exact ⟨D, h1.mono hn, h2⟩
theorem MapR.congr {w : World} {b n : Nat} {f g : Int → Option (List UInt8)} (h : MapR w b n f) (e : ∀ a, f a = g a) : MapR w b n g := by
  obtain rfl : f = g := funext e
  exact h
/-- What a store lays. -/
def fput (f : Int → Option (List UInt8)) (a : Int) (d : List UInt8) : Int → Option (List UInt8) := fun x => if x = a then some d else f x
theorem MapR.put_of {w' : World} {b n : Nat} {f : Int → Option (List UInt8)} {D : DataW Unit} (hD : IsMap D) (h2 : ∀ a, has D (.int .i64 a) = (f a).isSome ∧ ∀ zd, D.atKey (.int .i64 a) zd = ((f a).map (fun d => DataW.lit (.string d))).getD zd)
    (a : Int) (d : List UInt8) (h : w'.ownsMap Tryd.prog 3 digR b (n + 1) (D.put (.int .i64 a) (.lit (.string d)))) : MapR w' b (n + 1) (fput f a d) := by
  refine ⟨_, h, fun x => ?_⟩
  by_cases hx : x = a
  · subst hx
    rw [has_put_same hD (show WideAt.IsKeyLit (Lit.int .i64 x) from trivial)]
    refine ⟨by simp [fput], fun zd => ?_⟩
    rw [atKey_put_same hD (show WideAt.IsKeyLit (Lit.int .i64 x) from trivial)]
    simp [fput]
  · have hne : (Lit.int .i64 x) ≠ (Lit.int .i64 a) := fun e => by
      injection e with _ e2
      exact hx e2
    rw [has_put_other hne]
    refine ⟨by simp [fput, hx]; exact (h2 x).1, fun zd => ?_⟩
    rw [atKey_put_other hne, (h2 x).2 zd]
    simp [fput, hx]
theorem zero_dig (w : World) : (zeroValue 23).run Tryd.prog w = .ok (.agg (dig (List.replicate 32 0))) w := by kernel_rfl
section
variable {ops : Array Oper} {rest : List Oper} {o : Oper} {act : Act} {Q : Exit → Act → World → Prop}
/-- A store into the map. -/
theorem map_store (hg : o.guard = none) (m x v : Operand) (hop : o.op = Op.mapUpdate 114 m x v) {w : World} {b n : Nat} {f : Int → Option (List UInt8)} (hM : MapR w b n f) (hn : n < 1000000) (hm : act.eval m = .map (some b)) (a : Int) (h1 : -9223372036854775808 ≤ a) (h2 : a < 9223372036854775808) (hx : act.eval x = .int .i64 a)
    (d : List UInt8) (hd : d.length = 32) (hv : act.eval v = .agg (dig d)) (hK : ∀ w', MapR w' b (n + 1) (fput f a d) → w.grownBy w' (some b) → wpList Tryd.prog ops Q rest (act.put o.dst undef) w') : wpList Tryd.prog ops Q (o :: rest) act w := by
  obtain ⟨D, hown, hD⟩ := hM
  exact wpList_mapUpdate_own w hg m x v 114 hop 3 23 int_key Tryd.underlying114 digR b n D hm hown (by simp only [maxLen]; omega) _ _ (.int .i64 a) hx hv (key_int h1 h2) (.lit (.string d)) [] (digR_mk d hd)
    (fun w' hw hgr => hK w' (MapR.put_of hown.isMap hD a d hw) hgr)
/-- A look into the map. -/
theorem map_look (hg : o.guard = none) (m x : Operand) (hop : o.op = Op.lookup 114 m x true) {w : World} {b n : Nat} {f : Int → Option (List UInt8)} (hM : MapR w b n f) (hm : act.eval m = .map (some b)) (a : Int) (h1 : -9223372036854775808 ≤ a) (h2 : a < 9223372036854775808) (hx : act.eval x = .int .i64 a)
    (u : List UInt8) (ok : Bool) (hu : u = (f a).getD (List.replicate 32 0)) (hok : ok = (f a).isSome) (hK : wpList Tryd.prog ops Q rest (act.put o.dst (.tuple #[.agg (dig u), .bool ok])) w) : wpList Tryd.prog ops Q (o :: rest) act w := by
  obtain ⟨D, hown, hD⟩ := hM
  refine wpList_lookup_own_ok w hg m x 114 hop 3 23 int_key Tryd.underlying114 digR (zero_dig w) (.lit (.string (List.replicate 32 0))) [] (digR_mk _ (by simp)) b n D hm hown _ (.int .i64 a) hx (key_int h1 h2) ?_
  intro v ps hv
  obtain ⟨d, hd, rfl, hz⟩ := digR_inv hv
  have e1 := (Prod.mk.inj hz).1
  rw [(hD a).2] at e1
  have e2 : d = u := by
    rw [hu]
    cases hf : f a with
    | none =>
      rw [hf] at e1
      simp only [Option.map_none, Option.getD_none, DataW.lit.injEq, Lit.string.injEq] at e1
      exact e1.symm
    | some v =>
      rw [hf] at e1
      simp only [Option.map_some, Option.getD_some, DataW.lit.injEq, Lit.string.injEq] at e1
      exact e1.symm
  rw [(hD a).1, ← hok, e2]
  exact hK
end
/-- What reveals, stored one after the other, leave. -/
def laidR (m : List Pd) : Int → Option (List UInt8) := m.foldl (fun f r => fput f r.party r.dg) (fun _ => none)
theorem laidR_snoc (m : List Pd) (r : Pd) : laidR (m ++ [r]) = fput (laidR m) r.party r.dg := by simp [laidR]
theorem fold_put : ∀ (m : List Pd) (f : Int → Option (List UInt8)) (a : Int), m.Pairwise (fun a b => a.party ≠ b.party) → m.foldl (fun f r => fput f r.party r.dg) f a = (findR m a).or (f a)
  | [], f, a, _ => rfl
  | r :: m, f, a, h => by
    obtain ⟨h1, h2⟩ := List.pairwise_cons.1 h
    rw [List.foldl_cons, fold_put m _ a h2]
    by_cases e : r.party = a
    · subst e
      rw [findR_none (fun x hx => fun e => h1 x hx e.symm)]
      simp [fput, findR]
    · have e2 : ¬ a = r.party := fun h => e h.symm
      simp [fput, findR, e, e2]
theorem laidR_eq {m : List Pd} (h : m.Pairwise (fun a b => a.party ≠ b.party)) (a : Int) : laidR m a = findR m a := by
  rw [laidR, fold_put m _ a h]
  simp
theorem inForm.pairwise {l : List Pd} (h : inForm l) : l.Pairwise (fun a b => a.party ≠ b.party) := by
  rw [List.pairwise_iff_getElem]
  intro i j hi hj hij
  have := h.lt i j hij hj
  simp only [List.getD_eq_getElem?_getD, List.getElem?_eq_getElem hi, List.getElem?_eq_getElem hj, Option.getD_some] at this
  omega
end Go.Proofs.YtibnikokgbfcdaaDoor

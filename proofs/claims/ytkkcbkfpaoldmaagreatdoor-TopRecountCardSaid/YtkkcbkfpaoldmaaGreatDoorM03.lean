/- Several texts in one: HIn, HJn. -/
import Derived.Test.YtkkcbkfpaoldmaaGreatDoorM02
import Derived.Test.YtkkcbkfpaoldmaaGreatDoorBase
import Derived.OrdersHeld
import Derived.OrdersIn
/- A region that draws its order, within a fence: reads may be taken first; what comes behind them all (a yield) may change the world. -/
namespace Go.Proofs.YtkkcbkfpaoldmaaGreatDoor
open Go

section
variable {F : Fence} {n : Nat} {P : Program} {ops : Array Oper} {Q : Exit → Act → World → Prop} {md : Region.Mode} {S : World → Prop} {rs : List Nat}

/-- Operation j waits for operation i, at once or by way of others. -/
def depB (md : Region.Mode) (ops : Array Oper) (i : Nat) : Nat → Nat → Bool
  | 0, _ => false
  | f + 1, j => match ops[j]? with
    | none => false
    | some o => o.after.any fun e => Region.binds md e && (e.on == i || depB md ops i f e.on)
/-- What has come up has all that it waits for behind it. -/
def Closed (md : Region.Mode) (ops : Array Oper) (L : Array Bool) : Prop := ∀ j o, ops[j]? = some o → L.getD j false = true → ∀ e ∈ o.after, Region.binds md e = true → L.getD e.on false = true
theorem dep_listed {L : Array Bool} (hc : Closed md ops L) (i : Nat) : ∀ (f j : Nat) (o : Oper), ops[j]? = some o → (∀ e ∈ o.after, Region.binds md e = true → L.getD e.on false = true) → depB md ops i f j = true → L.getD i false = true
  | 0, _, _, _, _, h => by cases h
  | f + 1, j, o, ho, hl, h => by
    unfold depB at h
    simp only [ho, Array.any_eq_true] at h
    obtain ⟨k, hk, h1⟩ := h
    simp only [Bool.and_eq_true, Bool.or_eq_true, beq_iff_eq] at h1
    have hL := hl _ (Array.getElem_mem hk) h1.1
    rcases h1.2 with h2 | h2
    · rw [← h2]; exact hL
    · cases hp : ops[(o.after[k]'hk).on]? with
      | none =>
        exfalso
        revert h2
        cases f with
        | zero => simp [depB]
        | succ f => simp [depB, hp]
      | some p => exact dep_listed hc i f _ p hp (fun e he hb => hc _ _ hp hL e he hb) h2
theorem Closed.step {L : Array Bool} (h : Closed md ops L) {j : Nat} (hj : j ∈ Region.ready md ops L) : Closed md ops (L.setIfInBounds j true) := fun k o ho hk e he hb => by
  by_cases hkj : k = j
  · subst hkj
    obtain ⟨_, o', ho', hall⟩ := mem_ready.1 hj
    rw [ho] at ho'
    cases ho'
    exact getD_set_true (hall e he hb)
  · rw [getD_set_ne false (Ne.symm hkj)] at hk
    exact getD_set_true (h k o ho hk e he hb)
/-- Every order; behind each of the operations of rs, S holds. -/
def HeldIn (F : Fence) (n : Nat) (P : Program) (md : Region.Mode) (ops : Array Oper) (Q : Exit → Act → World → Prop) (S : World → Prop) (rs : List Nat) : Nat → Array Bool → Act → World → Prop
  | 0, listed, a, w => Region.ready md ops listed = [] ∧ Q .normal a w
  | fuel + 1, listed, a, w => (Region.ready md ops listed = [] → Q .normal a w) ∧
      ∀ i ∈ Region.ready md ops listed, wpOpIn F n P ops Q i (fun a' w' => (i ∈ rs → S w') ∧ HeldIn F n P md ops Q S rs fuel (listed.setIfInBounds i true) a' w') a w
theorem heldIn_sound : ∀ (fuel : Nat) (listed : Array Bool) (a : Act) (w : World), HeldIn F n P md ops Q S rs fuel listed a w → wpAnyIn F n P md ops Q fuel listed a w
  | 0, _, _, _, h => h
  | fuel + 1, _, _, _, h => ⟨h.1, fun i hi => wpOpIn_mono (fun a' w' h' => heldIn_sound fuel _ a' w' h'.2) (h.2 i hi)⟩
/-- In every world that meets S the operation yields v, and calls nothing. -/
def YieldsH (P : Program) (ops : Array Oper) (S : World → Prop) (o : Oper) (v : Value) (a : Act) : Prop := YieldsIf P ops S o v a ∧ ∀ w, o.about P w a.eval = none
theorem YieldsH.wpOpIn {i : Nat} {o : Oper} {v : Value} {a : Act} (hro : F.round = none) (hi : ops[i]? = some o) (hy : YieldsH P ops S o v a) {K : Act → World → Prop} {w : World} (hS : S w) (h : K (a.put o.dst v) w) : wpOpIn F n P ops Q i K a w := by
  unfold Go.wpOpIn
  simp only [hi]
  have hab : ∀ f, o.about P w a.eval = some f → F.fn f := fun f hf => by rw [hy.2 w] at hf; cases hf
  rcases hy.1 with ⟨hw, hv⟩ | ⟨hw, rfl⟩
  · rw [if_pos hw]
    exact ⟨hab, by rw [hro, Oper.semAt_none, hv w hS]; exact h⟩
  · rw [if_neg (by rw [hw]; decide)]
    exact ⟨hab, h⟩
theorem putH {j : Nat} {oi oj : Oper} {v : Value} (hro : F.round = none) (hj : ops[j]? = some oj) (hap : oi.apart ops oj = true) (hsi : ∀ cs b, oi.op ≠ .select cs b) (hsj : ∀ cs b, oj.op ≠ .select cs b)
    (hQ : ∀ c a w, Q (.panic c) (a.put oi.dst v) w → Q (.panic c) a w) {K : Act → World → Prop} {a : Act} {w : World} (hy : YieldsH P ops S oi v a) (h : wpOpIn F n P ops Q j K (a.put oi.dst v) w) :
    wpOpIn F n P ops Q j (fun a' w' => YieldsH P ops S oi v a' ∧ K (a'.put oi.dst v) w') a w := by
  obtain ⟨h1, h2, h3⟩ := Oper.apart_spec hap
  have keep : ∀ a, YieldsH P ops S oi v a → ∀ u, YieldsH P ops S oi v (a.put oj.dst u) := fun a hy u =>
    ⟨hy.1.of_same (execOp_put oi hsi a oj.dst u h3) (wanted_put oi a oj.dst u h3), fun w => by rw [about_put oi w a oj.dst u h3]; exact hy.2 w⟩
  unfold Go.wpOpIn at h ⊢
  simp only [hj] at h ⊢
  rw [wanted_put oj a oi.dst v h1, about_put oj w a oi.dst v h1] at h
  by_cases hw : Region.wanted oj (yielded ops a.tmps) = true
  · rw [if_pos hw] at h ⊢
    unfold Oper.wpIn at h ⊢
    rw [about_put oj w a oi.dst v h1] at h
    obtain ⟨hf, h⟩ := h
    refine ⟨hf, ?_⟩
    rw [hro, Oper.semAt_none] at h ⊢
    rw [execOp_put oj hsj a oi.dst v h1] at h
    cases hr : (execOp a.eval oj).run P w with
    | ok x w' =>
      rw [hr] at h
      cases x with
      | value u =>
        simp only [Oper.uponIn] at h ⊢
        exact ⟨keep a hy u, by rw [← Act.put_comm a v u h2]; exact h⟩
      | skip =>
        simp only [Oper.uponIn] at h ⊢
        exact ⟨keep a hy _, by rw [← Act.put_comm a v undef h2]; exact h⟩
      | defer d =>
        simp only [Oper.uponIn] at h ⊢
        refine ⟨keep { a with defers := d :: a.defers } ⟨hy.1.of_same rfl rfl, hy.2⟩ _, ?_⟩
        rw [← Act.put_comm _ v undef h2, ← Act.put_defers]
        exact h
      | enter f args =>
        simp only [Oper.uponIn] at h ⊢
        refine ⟨h.1, CallsIn.mono h.2 fun e w'' he => ?_⟩
        cases e with
        | returned u => exact ⟨keep a hy u, by rw [← Act.put_comm a v u h2]; exact he⟩
        | panicked c => exact hQ _ _ _ he
        | outgrown => exact he
      | row r args =>
        simp only [Oper.uponIn] at h ⊢
        exact ⟨h.1, RowsIn.mono h.2 fun u w'' he => ⟨keep a hy u, by rw [← Act.put_comm a v u h2]; exact he⟩⟩
      | round l f tmps assign body =>
        simp only [Oper.uponIn] at h ⊢
        refine ⟨h.1, RoundIn.mono h.2 fun e w'' he => ?_⟩
        cases e with
        | returned u => exact ⟨keep a hy u, by rw [← Act.put_comm a v u h2]; exact he⟩
        | panicked c => exact hQ _ _ _ he
        | outgrown => exact he
      | _ => simp only [Oper.uponIn] at h ⊢
    | halt x w' =>
      rw [hr] at h
      cases x <;> simp only [Oper.uponIn] at h ⊢
      case panic u => exact hQ _ _ _ h
  · rw [if_neg hw] at h ⊢
    exact ⟨h.1, keep a hy _, by rw [← Act.put_comm a v undef h2]; exact h.2⟩
theorem heldIn_first {i : Nat} {oi : Oper} {v : Value} (hro : F.round = none) (hi : ops[i]? = some oi) (hsel : ∀ (j : Nat) (o : Oper) cs b, ops[j]? = some o → o.op ≠ .select cs b)
    (hQ : ∀ c a w, Q (.panic c) (a.put oi.dst v) w → Q (.panic c) a w) (hdep : ∀ j o, ops[j]? = some o → j ∉ rs → depB md ops i ops.size j = true) :
    ∀ (fuel : Nat) (listed : Array Bool) (a : Act) (w : World), Closed md ops listed →
      (∀ j oj, ops[j]? = some oj → j ≠ i → listed.getD j true = false → (∀ e ∈ oj.after, Region.binds md e = true → e.on ≠ i) → oi.apart ops oj = true) →
      i ∈ Region.ready md ops listed → YieldsH P ops S oi v a → S w →
      HeldIn F n P md ops Q S rs fuel (listed.setIfInBounds i true) (a.put oi.dst v) w → (i ∈ rs) → HeldIn F n P md ops Q S rs (fuel + 1) listed a w
  | fuel, listed, a, w, hcl, hfree, hr, hy, hS, H, hir => by
    refine ⟨fun h => (by rw [h] at hr; cases hr), fun j hj => ?_⟩
    by_cases hji : j = i
    · subst hji
      exact hy.wpOpIn hro hi hS ⟨fun _ => hS, H⟩
    · obtain ⟨hjun, oj, hoj, hall⟩ := mem_ready.1 hj
      have hiun := (mem_ready.1 hr).1
      have hno2 : listed.getD i false ≠ true := fun h0 => by
        rcases Nat.lt_or_ge i listed.size with h' | h'
        · simp [h'] at h0 hiun
          rw [hiun] at h0
          cases h0
        · simp [Array.getElem?_eq_none h'] at h0
      have hjr : j ∈ rs := Decidable.byContradiction fun hn => hno2 (dep_listed hcl i _ j oj hoj hall (hdep j oj hoj hn))
      cases fuel with
      | zero =>
        have := ready_mono hj hji
        rw [H.1] at this
        cases this
      | succ fuel =>
        have h1 := H.2 j (ready_mono hj hji)
        have hnot : ∀ e ∈ oj.after, Region.binds md e = true → e.on ≠ i := fun e he hb heq => hno2 (by rw [← heq]; exact hall e he hb)
        have h2 := putH hro hoj (hfree j oj hoj hji hjun hnot) (fun cs b => hsel i oi cs b hi) (fun cs b => hsel j oj cs b hoj) hQ hy h1
        have hfree' : ∀ k ok, ops[k]? = some ok → k ≠ i → (listed.setIfInBounds j true).getD k true = false → (∀ e ∈ ok.after, Region.binds md e = true → e.on ≠ i) → oi.apart ops ok = true := fun k ok hk hki hun hno => by
          refine hfree k ok hk hki ?_ hno
          by_cases hjk : j = k
          · subst hjk; exact hjun
          · rw [getD_set_ne true hjk] at hun; exact hun
        refine wpOpIn_mono (fun a' w' h3 => ⟨fun _ => h3.2.1 hjr, heldIn_first hro hi hsel hQ hdep fuel _ a' w' (hcl.step hj) hfree' (ready_mono hr (Ne.symm hji)) h3.1 (h3.2.1 hjr) ?_ hir⟩) h2
        rw [Array.setIfInBounds_comm _ _ hji]
        exact h3.2.2
/-- The looks of the kernel for a read that is taken first. -/
def takeB (md : Region.Mode) (ops : Array Oper) (rs : List Nat) (listed : Array Bool) (i : Nat) : Bool :=
  Region.noSelect ops && Region.free md ops listed i && (Region.ready md ops listed).contains i && rs.contains i && ((List.range ops.size).all fun j => rs.contains j || depB md ops i ops.size j) &&
    ((List.range ops.size).all fun j => match ops[j]? with | none => true | some o => !(listed.getD j false) || o.after.all fun e => !(Region.binds md e) || listed.getD e.on false)
theorem heldIn_take {i : Nat} {oi : Oper} {v : Value} {fuel : Nat} {listed : Array Bool} {a : Act} {w : World} (hi : ops[i]? = some oi) (hb : takeB md ops rs listed i = true) (hro : F.round = none)
    (hQ : ∀ c a w, Q (.panic c) (a.put oi.dst v) w → Q (.panic c) a w) (hy : YieldsH P ops S oi v a) (hS : S w)
    (h : HeldIn F n P md ops Q S rs fuel (listed.setIfInBounds i true) (a.put oi.dst v) w) : HeldIn F n P md ops Q S rs (fuel + 1) listed a w := by
  unfold takeB at hb
  simp only [Bool.and_eq_true, List.all_eq_true, List.mem_range, Bool.or_eq_true] at hb
  obtain ⟨⟨⟨⟨⟨h1, h2⟩, h3⟩, h4⟩, h5⟩, h6⟩ := hb
  refine heldIn_first hro hi (Region.noSelect_spec h1) hQ (fun j o ho hj => ?_) fuel listed a w (fun j o ho hl e he hbi => ?_) (Region.free_spec hi h2) (by simpa using h3) hy hS h (by simpa using h4)
  · rcases h5 j (Array.getElem?_eq_some_iff.1 ho).1 with h | h
    · exact absurd (by simpa using h) hj
    · exact h
  · have h7 := h6 j (Array.getElem?_eq_some_iff.1 ho).1
    simp only [ho, hl, Bool.not_true, Bool.false_or] at h7
    have h8 := (Array.all_eq_true_iff_forall_mem.1 h7) e he
    simpa [hbi] using h8
theorem heldIn_one {i : Nat} {o : Oper} {fuel : Nat} {listed : Array Bool} {a : Act} {w : World} (hr : Region.ready md ops listed = [i]) (ho : ops[i]? = some o) (hw : Region.wanted o (yielded ops a.tmps) = true) (hn : rs.contains i = false)
    (h : ∀ K' : Act → World → Prop, (∀ a w, HeldIn F n P md ops Q S rs fuel (listed.setIfInBounds i true) a w → K' a w) → Oper.wpIn F n P o a w K' Q) : HeldIn F n P md ops Q S rs (fuel + 1) listed a w :=
  ⟨fun h0 => (by rw [hr] at h0; cases h0), fun j hj => by
    rw [hr, List.mem_singleton] at hj
    subst hj
    refine wpOpIn_step ho fun K' hK' => ?_
    rw [if_pos hw]
    exact h K' fun a w hh => hK' a w ⟨fun hc => by simp [hc] at hn, hh⟩⟩
theorem heldIn_done {fuel : Nat} {listed : Array Bool} {a : Act} {w : World} (hr : Region.ready md ops listed = []) (h : Q .normal a w) : HeldIn F n P md ops Q S rs fuel listed a w := by
  cases fuel with
  | zero => exact ⟨hr, h⟩
  | succ f => exact ⟨fun _ => h, fun j hj => by rw [hr] at hj; cases hj⟩
theorem wpIn_region_heldIn {id : Nat} {a : Act} {w : World} (S : World → Prop) (rs : List Nat) (hm : P.follows .mixedOrders = true) (hS : S w.drew) (h : S w.drew → HeldIn F n P .any ops Q S rs ops.size (Array.replicate ops.size false) a w.drew) : (Code.region id ops true).wpIn F n P Q a w :=
  wpIn_region_any hm (heldIn_sound _ _ _ _ (h hS))
theorem rowsIn_wide {row : String} {args : Array Value} {w : World} {R : Value → World → Prop} (h : Rows P row args w R) : RowsIn Fence.wide n P row args w R := fun c cs _ => by
  obtain ⟨v, w', hr, hs⟩ := h c cs
  exact ⟨v, w', hr, stepsIn_wide.2 hs⟩
theorem opIn_wide {o : Oper} {a : Act} {w : World} {K : Act → World → Prop} (h : o.wp P a w K Q) : o.wpIn Fence.wide n P a w K Q := by
  refine ⟨fun f _ => trivial, ?_⟩
  show o.uponIn Fence.wide n P a K Q ((o.semAt none a.eval).run P w)
  have e : o.semAt none a.eval = execOp a.eval o := rfl
  rw [e]
  unfold Oper.wp at h
  generalize (execOp a.eval o).run P w = r at *
  cases r with
  | ok nx w' =>
    cases nx with
    | value v => exact h
    | skip => exact h
    | defer d => exact h
    | enter f args => exact ⟨fun e => (by cases e), callsIn_wide.2 h⟩
    | row row args => exact ⟨fun e => (by cases e), rowsIn_wide h⟩
    | _ => exact h.elim
  | halt x w' => cases x <;> first | exact h | exact h.elim
end
end Go.Proofs.YtkkcbkfpaoldmaaGreatDoor

/- A region that draws its order, within whatever fence: some operations keep S, and reads among them may be taken first. -/
namespace Go.Proofs.YtkkcbkfpaoldmaaGreatDoor
open Go

section
variable {F : Fence} {n : Nat} {P : Program} {ops : Array Oper} {Q : Exit → Act → World → Prop} {md : Region.Mode} {S : World → Prop} {rs : List Nat}
/-- Within the fence the operations mean what they mean outside. -/
def SemAs (F : Fence) (ops : Array Oper) : Prop := ∀ (j : Nat) (o : Oper), ops[j]? = some o → ∀ ρ, o.semAt F.round ρ = execOp ρ o
theorem semAs_round (l : Nat) (h : noDefer ops = true) : SemAs (Fence.wide.inRound l) ops := fun j o ho _ => Oper.semAt_some l _ _ (noDefer_spec h j o ho)
theorem yieldsH_op2 {i : Nat} {o : Oper} {v : Value} {a : Act} (hro : SemAs F ops) (hi : ops[i]? = some o) (hy : YieldsH P ops S o v a) {K : Act → World → Prop} {w : World} (hS : S w) (h : K (a.put o.dst v) w) : wpOpIn F n P ops Q i K a w := by
  unfold Go.wpOpIn
  simp only [hi]
  have hab : ∀ f, o.about P w a.eval = some f → F.fn f := fun f hf => by rw [hy.2 w] at hf; cases hf
  rcases hy.1 with ⟨hw, hv⟩ | ⟨hw, rfl⟩
  · rw [if_pos hw]
    exact ⟨hab, by rw [hro _ _ hi, hv w hS]; exact h⟩
  · rw [if_neg (by rw [hw]; decide)]
    exact ⟨hab, h⟩
theorem putH2 {j : Nat} {oi oj : Oper} {v : Value} (hro : SemAs F ops) (hj : ops[j]? = some oj) (hap : oi.apart ops oj = true) (hsi : ∀ cs b, oi.op ≠ .select cs b) (hsj : ∀ cs b, oj.op ≠ .select cs b)
    (hQ : ∀ c a w, Q (.panic c) (a.put oi.dst v) w → Q (.panic c) a w) {K : Act → World → Prop} {a : Act} {w : World} (hy : YieldsH P ops S oi v a) (h : wpOpIn F n P ops Q j K (a.put oi.dst v) w) :
    wpOpIn F n P ops Q j (fun a' w' => YieldsH P ops S oi v a' ∧ K (a'.put oi.dst v) w') a w := by
  obtain ⟨h1, h2, h3⟩ := Oper.apart_spec hap
  have keep : ∀ a, YieldsH P ops S oi v a → ∀ u, YieldsH P ops S oi v (a.put oj.dst u) := fun a hy u =>
    ⟨hy.1.of_same (execOp_put oi hsi a oj.dst u h3) (wanted_put oi a oj.dst u h3), fun w => by rw [about_put oi w a oj.dst u h3]; exact hy.2 w⟩
  unfold Go.wpOpIn at h ⊢
  simp only [hj] at h ⊢
  rw [wanted_put oj a oi.dst v h1, about_put oj w a oi.dst v h1] at h
  by_cases hw : Region.wanted oj (yielded ops a.tmps) = true
  · rw [if_pos hw] at h ⊢
    unfold Oper.wpIn at h ⊢
    rw [about_put oj w a oi.dst v h1] at h
    obtain ⟨hf, h⟩ := h
    refine ⟨hf, ?_⟩
    rw [hro _ _ hj] at h ⊢
    rw [execOp_put oj hsj a oi.dst v h1] at h
    cases hr : (execOp a.eval oj).run P w with
    | ok x w' =>
      rw [hr] at h
      cases x with
      | value u =>
        simp only [Oper.uponIn] at h ⊢
        exact ⟨keep a hy u, by rw [← Act.put_comm a v u h2]; exact h⟩
      | skip =>
        simp only [Oper.uponIn] at h ⊢
        exact ⟨keep a hy _, by rw [← Act.put_comm a v undef h2]; exact h⟩
      | defer d =>
        simp only [Oper.uponIn] at h ⊢
        refine ⟨keep { a with defers := d :: a.defers } ⟨hy.1.of_same rfl rfl, hy.2⟩ _, ?_⟩
        rw [← Act.put_comm _ v undef h2, ← Act.put_defers]
        exact h
      | enter f args =>
        simp only [Oper.uponIn] at h ⊢
        refine ⟨h.1, CallsIn.mono h.2 fun e w'' he => ?_⟩
        cases e with
        | returned u => exact ⟨keep a hy u, by rw [← Act.put_comm a v u h2]; exact he⟩
        | panicked c => exact hQ _ _ _ he
        | outgrown => exact he
      | row r args =>
        simp only [Oper.uponIn] at h ⊢
        exact ⟨h.1, RowsIn.mono h.2 fun u w'' he => ⟨keep a hy u, by rw [← Act.put_comm a v u h2]; exact he⟩⟩
      | round l f tmps assign body =>
        simp only [Oper.uponIn] at h ⊢
        refine ⟨h.1, RoundIn.mono h.2 fun e w'' he => ?_⟩
        cases e with
        | returned u => exact ⟨keep a hy u, by rw [← Act.put_comm a v u h2]; exact he⟩
        | panicked c => exact hQ _ _ _ he
        | outgrown => exact he
      | _ => simp only [Oper.uponIn] at h ⊢
    | halt x w' =>
      rw [hr] at h
      cases x <;> simp only [Oper.uponIn] at h ⊢
      case panic u => exact hQ _ _ _ h
  · rw [if_neg hw] at h ⊢
    exact ⟨h.1, keep a hy _, by rw [← Act.put_comm a v undef h2]; exact h.2⟩
theorem heldIn_first2 {i : Nat} {oi : Oper} {v : Value} (hro : SemAs F ops) (hi : ops[i]? = some oi) (hsel : ∀ (j : Nat) (o : Oper) cs b, ops[j]? = some o → o.op ≠ .select cs b)
    (hQ : ∀ c a w, Q (.panic c) (a.put oi.dst v) w → Q (.panic c) a w) (hdep : ∀ j o, ops[j]? = some o → j ∉ rs → depB md ops i ops.size j = true) :
    ∀ (fuel : Nat) (listed : Array Bool) (a : Act) (w : World), Closed md ops listed →
      (∀ j oj, ops[j]? = some oj → j ≠ i → listed.getD j true = false → (∀ e ∈ oj.after, Region.binds md e = true → e.on ≠ i) → oi.apart ops oj = true) →
      i ∈ Region.ready md ops listed → YieldsH P ops S oi v a → S w →
      HeldIn F n P md ops Q S rs fuel (listed.setIfInBounds i true) (a.put oi.dst v) w → (i ∈ rs) → HeldIn F n P md ops Q S rs (fuel + 1) listed a w
  | fuel, listed, a, w, hcl, hfree, hr, hy, hS, H, hir => by
    refine ⟨fun h => (by rw [h] at hr; cases hr), fun j hj => ?_⟩
    by_cases hji : j = i
    · subst hji
      exact yieldsH_op2 hro hi hy hS ⟨fun _ => hS, H⟩
    · obtain ⟨hjun, oj, hoj, hall⟩ := mem_ready.1 hj
      have hiun := (mem_ready.1 hr).1
      have hno2 : listed.getD i false ≠ true := fun h0 => by
        rcases Nat.lt_or_ge i listed.size with h' | h'
        · simp [h'] at h0 hiun
          rw [hiun] at h0
          cases h0
        · simp [Array.getElem?_eq_none h'] at h0
      have hjr : j ∈ rs := Decidable.byContradiction fun hn => hno2 (dep_listed hcl i _ j oj hoj hall (hdep j oj hoj hn))
      cases fuel with
      | zero =>
        have := ready_mono hj hji
        rw [H.1] at this
        cases this
      | succ fuel =>
        have h1 := H.2 j (ready_mono hj hji)
        have hnot : ∀ e ∈ oj.after, Region.binds md e = true → e.on ≠ i := fun e he hb heq => hno2 (by rw [← heq]; exact hall e he hb)
        have h2 := putH2 hro hoj (hfree j oj hoj hji hjun hnot) (fun cs b => hsel i oi cs b hi) (fun cs b => hsel j oj cs b hoj) hQ hy h1
        have hfree' : ∀ k ok, ops[k]? = some ok → k ≠ i → (listed.setIfInBounds j true).getD k true = false → (∀ e ∈ ok.after, Region.binds md e = true → e.on ≠ i) → oi.apart ops ok = true := fun k ok hk hki hun hno => by
          refine hfree k ok hk hki ?_ hno
          by_cases hjk : j = k
          · subst hjk; exact hjun
          · rw [getD_set_ne true hjk] at hun; exact hun
        refine wpOpIn_mono (fun a' w' h3 => ⟨fun _ => h3.2.1 hjr, heldIn_first2 hro hi hsel hQ hdep fuel _ a' w' (hcl.step hj) hfree' (ready_mono hr (Ne.symm hji)) h3.1 (h3.2.1 hjr) ?_ hir⟩) h2
        rw [Array.setIfInBounds_comm _ _ hji]
        exact h3.2.2
theorem heldIn_take2 {i : Nat} {oi : Oper} {v : Value} {fuel : Nat} {listed : Array Bool} {a : Act} {w : World} (hi : ops[i]? = some oi) (hb : takeB md ops rs listed i = true) (hro : SemAs F ops)
    (hQ : ∀ c a w, Q (.panic c) (a.put oi.dst v) w → Q (.panic c) a w) (hy : YieldsH P ops S oi v a) (hS : S w)
    (h : HeldIn F n P md ops Q S rs fuel (listed.setIfInBounds i true) (a.put oi.dst v) w) : HeldIn F n P md ops Q S rs (fuel + 1) listed a w := by
  unfold takeB at hb
  simp only [Bool.and_eq_true, List.all_eq_true, List.mem_range, Bool.or_eq_true] at hb
  obtain ⟨⟨⟨⟨⟨h1, h2⟩, h3⟩, h4⟩, h5⟩, h6⟩ := hb
  refine heldIn_first2 hro hi (Region.noSelect_spec h1) hQ (fun j o ho hj => ?_) fuel listed a w (fun j o ho hl e he hbi => ?_) (Region.free_spec hi h2) (by simpa using h3) hy hS h (by simpa using h4)
  · rcases h5 j (Array.getElem?_eq_some_iff.1 ho).1 with h | h
    · exact absurd (by simpa using h) hj
    · exact h
  · have h7 := h6 j (Array.getElem?_eq_some_iff.1 ho).1
    simp only [ho, hl, Bool.not_true, Bool.false_or] at h7
    have h8 := (Array.all_eq_true_iff_forall_mem.1 h7) e he
    simpa [hbi] using h8
/-- Whichever comes up. -/
def AllH (F : Fence) (n : Nat) (P : Program) (md : Region.Mode) (ops : Array Oper) (Q : Exit → Act → World → Prop) (S : World → Prop) (rs : List Nat) (fuel : Nat) (listed : Array Bool) (a : Act) (w : World) (L : List Nat) : Prop :=
  ∀ i ∈ L, wpOpIn F n P ops Q i (fun a' w' => (i ∈ rs → S w') ∧ HeldIn F n P md ops Q S rs fuel (listed.setIfInBounds i true) a' w') a w
theorem AllH.nil {fuel : Nat} {listed : Array Bool} {a : Act} {w : World} : AllH F n P md ops Q S rs fuel listed a w [] := fun _ h => by cases h
theorem AllH.cons {i : Nat} {o : Oper} {fuel : Nat} {listed : Array Bool} {a : Act} {w : World} {L : List Nat} (ho : ops[i]? = some o) (hw : Region.wanted o (yielded ops a.tmps) = true)
    (h : ∀ K' : Act → World → Prop, (∀ a w, (i ∈ rs → S w) → HeldIn F n P md ops Q S rs fuel (listed.setIfInBounds i true) a w → K' a w) → Oper.wpIn F n P o a w K' Q) (hs : AllH F n P md ops Q S rs fuel listed a w L) : AllH F n P md ops Q S rs fuel listed a w (i :: L) := fun j hj => by
  rcases List.mem_cons.1 hj with rfl | hj
  · refine wpOpIn_step ho fun K' hK' => ?_
    rw [if_pos hw]
    exact h K' fun a w h1 h2 => hK' a w ⟨h1, h2⟩
  · exact hs j hj
theorem heldIn_ready {L : List Nat} {fuel : Nat} {listed : Array Bool} {a : Act} {w : World} (hr : Region.ready md ops listed = L) (hne : L ≠ []) (h : AllH F n P md ops Q S rs fuel listed a w L) : HeldIn F n P md ops Q S rs (fuel + 1) listed a w :=
  ⟨fun h0 => absurd (hr ▸ h0) hne, fun j hj => h j (by rw [← hr]; exact hj)⟩
end
end Go.Proofs.YtkkcbkfpaoldmaaGreatDoor

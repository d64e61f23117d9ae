/- Several texts in one: Rf, Rv, Rb. -/
import Derived.RangeFuncFrom
import Derived.RangeFuncNested
import Derived.Test.YtkkcbkfpaoldmaaGreatDoorProg
/- A loop over an iterator that may turn one block of its own (a map), or that relies on what the rounds have found so far. -/
namespace Go.Proofs.YtkkcbkfpaoldmaaGreatDoor
open Go Go.RowKit

section
variable {α : Type} {F : Fence} {n : Nat} {P : Program}
/-- J bears new blocks, one turned block from B on that is of the kind 'k', and the block Mb turned. -/
def BearsM {β : Type} (k : Obj → Bool) (B : Nat) (Mb : Option Nat) (J : β → World → Prop) : Prop :=
  ∀ s W W' row, J s W → W.grownBy W' row → (∀ r, row = some r → (B ≤ r ∧ ∃ o : Obj, W.heap[r]? = some o ∧ k o = true) ∨ Mb = some r) → J s W'
/-- Whatever holds no cells. -/
def noCells (o : Obj) : Bool := !o.isCells
theorem BearsM.put {β : Type} {B : Nat} {Mb : Option Nat} {J : β → World → Prop} (h : BearsM noCells B Mb J) {s : β} {W : World} {l : Nat} {o : Obj} (o' : Obj) (hs : J s W) (hB : B ≤ l) (hl : W.heap[l]? = some o) (ho : o.isCells = false) : J s (W.putObj l o') :=
  h s W _ (some l) hs (grownBy_putObj' W l o') fun r e => .inl (by cases e; exact ⟨hB, o, hl, by simp [noCells, ho]⟩)
theorem BearsM.new {β : Type} {k : Obj → Bool} {B : Nat} {Mb : Option Nat} {J : β → World → Prop} (h : BearsM k B Mb J) {s : β} {W : World} (o : Obj) (hs : J s W) : J s (W.alloc o) :=
  h s W _ none hs (World.grownBy_alloc W o none) fun r e => by cases e
theorem BearsM.and {β : Type} {k : Obj → Bool} {B : Nat} {Mb : Option Nat} {J K : β → World → Prop} (h : BearsM k B Mb J) (h' : BearsM k B Mb K) : BearsM k B Mb (fun s W => J s W ∧ K s W) :=
  fun s W W' row hs hg hr => ⟨h s W W' row hs.1 hg hr, h' s W W' row hs.2 hg hr⟩
theorem BearsM.pure {β : Type} (k : Obj → Bool) (B : Nat) (Mb : Option Nat) (p : β → Prop) : BearsM k B Mb (fun s (_ : World) => p s) := fun _ _ _ _ hs _ _ => hs
theorem BearsM.of_from {β : Type} {B : Nat} {J : β → World → Prop} (h : OwnFrom B J) : BearsM noCells B none J := fun s W W' row hs hg hr => h s W W' row hs hg fun r e => by
  rcases hr r e with ⟨h1, o, h2, h3⟩ | h
  · exact ⟨h1, o, h2, by simpa [noCells] using h3⟩
  · cases h
/-- What the iterator does, in whatever rounds that know G of what has come. -/
def SeqM (F : Fence) (n : Nat) (P : Program) (g : Nat) (lb : Array Value) (encs : α → Array Value) (Kp : World → World → Prop) (Mb : Option Nat) (G S Sp : List α → Prop) (T : List α → World → Prop) (N : Nat) (w : World) : Prop :=
  ∀ (l : Nat) (J Jx : List α → World → Prop) (W : World), Below w.heap.size w W → BearsM (·.isWalk) W.heap.size Mb J → BearsM (·.isWalk) W.heap.size Mb Jx → (∀ pre W, J pre W → G pre) →
    (∀ pre x W1, J pre W1 → pre.length < N → YieldAt F (n - 1) P l (encs x) W1 fun e W' => (e = .returned (.bool true) ∧ J (pre ++ [x]) W' ∧ Kp W1 W') ∨ (e = .returned (.bool false) ∧ Jx (pre ++ [x]) W')) →
    J [] W → CallsIn F n P g (#[.func (.yield l) #[] #[]] ++ lb) W fun e W' => (∃ v, e = .returned v) ∧ ((∃ xs, S xs ∧ J xs W' ∧ T xs W') ∨ (∃ pre, Sp pre ∧ Jx pre W'))

/-- A block that neither holds cells nor is a walk, and is not Mb, lies as it lay. -/
theorem bears_at {B b : Nat} {Mb : Option Nat} {o : Obj} (hb : Mb ≠ some b) (hw : o.isWalk = false) : BearsM (·.isWalk) B Mb (fun (_ : Unit) W => W.heap[b]? = some o) := fun _ W W' row hs hg hr => by
  refine (hg.block b (Array.getElem?_eq_some_iff.1 hs).1 fun e => ?_).trans hs
  rcases hr b e.symm with ⟨_, o', ho, hk⟩ | h
  · rw [hs] at ho
    cases ho
    have hk' : o.isWalk = true := hk
    rw [hw] at hk'
    cases hk'
  · exact hb h

theorem wpIn_rangeM {g : Operand} {ps : Array Tmp} {assign body : Code} {Q : Exit → Act → World → Prop} {a : Act} {w : World} (hro : F.round = none) (h1 : 1 ≤ n) {gf : Nat} {lb : Array Value} (hg : a.eval g = .func (.func gf) #[] lb) (hFg : F.fn gf)
    (eg : ∀ args w, (callFunc gf args).run P w = .ok (.enter gf args) w) {encs : α → Array Value} {Kp : World → World → Prop} {Mb : Option Nat} {G S Sp : List α → Prop} {T : List α → World → Prop} {N : Nat} {w0 : World}
    (hseq : SeqM F (n - 1) P gf lb encs Kp Mb G S Sp T N w0) (hMb : ∀ b, Mb = some b → b < w.heap.size) (hKt : ∀ {A B C : World}, Kp A B → Kp B C → Kp A C)
    (hKb : ∀ (W : World) (l : Nat) (o o' : Obj), w.heap.size ≤ l → W.heap[l]? = some o → o.isCells = false → o.isWalk = false → Kp W (W.putObj l o')) (hb0 : Below w0.heap.size w0 w) (hps : ∀ x, (encs x).size = ps.size)
    (I : List α → World → Prop) (Ix : Code → List α → World → Prop) (hI : BearsM noCells w.heap.size Mb I) (hIx : ∀ c, BearsM noCells w.heap.size Mb (Ix c)) (hT : BearsM noCells w.heap.size none T) (hG : ∀ pre W, I pre W → G pre) (h0 : I [] w)
    (Ax : α → Act → World → Prop) (hAx : ∀ x a', BearsM noCells w.heap.size none (fun (_ : Unit) W => Ax x a' W))
    (hassign : ∀ (l : Nat) (pre : List α) (x : α) (W : World) (K : Act → World → Prop), I pre W → (∀ a' W', KeepsFrom w.heap.size W W' → Kp W W' → I pre W' → Ax x a' W' → K a' W') →
      assign.wpIn (F.inRound l) (n - 1 - 1) P (Exit.then K (fun _ _ _ => False)) { tmps := (ps.zip (encs x)).foldl (fun t (p, v) => t.setIfInBounds p v) a.tmps, defers := [] } W)
    (hbody : ∀ (l : Nat) (pre : List α) (x : α) (a' : Act) (W : World), I pre W → Ax x a' W → pre.length < N → body.wpIn (F.inRound l) (n - 1 - 1) P (ownPostG w.heap.size Kp I Ix (pre ++ [x]) W) a' W)
    (hdone : ∀ (D : Nat) (xs : List α) (W : World), w.heap.size ≤ D → S xs → I xs W → T xs W → W.heap[D]? = some (.deferred (some [])) → Q .normal { a with defers := { target := .collected D, args := #[] } :: a.defers } W)
    (hstop : ∀ (D : Nat) (c : Code) (pre : List α) (W : World), w.heap.size ≤ D → Sp pre → Ix c pre W → W.heap[D]? = some (.deferred (some [])) → c.wpIn F n P Q { a with defers := { target := .collected D, args := #[] } :: a.defers } W) :
    (Code.rangeFunc g ps assign body).wpIn F n P Q a w := by
  refine wpIn_rangeFunc fun fn hfn => ?_
  rw [hro]
  -- the loop's record, in its states
  have hRec : ∃ R : LoopState → Option Code → Loop, R = fun st pe => { state := st, pending := pe, fn, tmps := a.tmps, params := ps, assign, body, defers := w.heap.size } := ⟨_, rfl⟩
  obtain ⟨R, hR⟩ := hRec
  obtain ⟨L, hL⟩ : ∃ L, L = w.heap.size + 1 := ⟨_, rfl⟩
  have hne : ∀ b, w.heap.size ≤ b → Mb ≠ some b := fun b hb e => by have := hMb b e; omega
  obtain ⟨W1, hW1⟩ : ∃ W1, (w.alloc (.deferred (some []))).alloc (.loop (R .ready none)) = W1 := ⟨_, rfl⟩
  have hb1 : Below w.heap.size w W1 := by rw [← hW1]; exact ((Below.refl _ w).alloc (Nat.le_refl _) _).alloc (by simp) _
  have hsz : W1.heap.size = w.heap.size + 2 := by rw [← hW1]; simp
  have hl1 : W1.heap[L]? = some (.loop (R .ready none)) := by
    have h := World.alloc_heap_new (w.alloc (.deferred (some []))) (.loop (R .ready none))
    rw [World.size_alloc, hW1] at h
    rw [hL]
    exact h
  have hd1 : W1.heap[w.heap.size]? = some (.deferred (some [])) := by
    rw [← hW1]
    exact (Below.heap_alloc _ _ _ (by simp)).trans (World.alloc_heap_new w _)
  have hi1 : I [] W1 := by rw [← hW1]; exact hI.new _ (hI.new _ h0)
  have hwalk : ∀ {β : Type} {J : β → World → Prop}, BearsM noCells w.heap.size Mb J → BearsM (·.isWalk) W1.heap.size Mb J := fun hJ s A B row hs hg' hr => hJ s A B row hs hg' fun r e => by
    rcases hr r e with ⟨hB, o, ho, hw⟩ | h
    · exact .inl ⟨by omega, o, ho, by simp [noCells, Obj.not_cells_of_walk hw]⟩
    · exact .inr h
  have hrec : ∀ {β : Type} (o : Obj), o.isWalk = false → ∀ b, w.heap.size ≤ b → BearsM (·.isWalk) W1.heap.size Mb (fun (_ : β) W => W.heap[b]? = some o) := fun o ho b hb s A B row hs hg' hr => bears_at (hne b hb) ho () A B row hs hg' hr
  refine ⟨L, [{ target := .collected w.heap.size, args := #[] }], W1, { target := .fn (.func gf) lb, args := #[.func (.yield L) #[] #[]] }, W1, gf, #[.func (.yield L) #[] #[]] ++ lb, W1, ?_, ?_, ?_, ?_, fun _ => h1, ?_⟩
  · rw [← hW1, hR, hL]
    exact run_enterLoop_outer _ _ _ _ _
  · simp only [resolve, hg]
    simp [go_sem]
  · intro f' hf'
    simp [Target.leads] at hf'
    subst hf'
    exact hFg
  · simp [invoke, go_sem, eg]
  refine (hseq L (fun pre W => I pre W ∧ W.heap[L]? = some (.loop (R .ready none)) ∧ W.heap[w.heap.size]? = some (.deferred (some [])))
    (fun pre W => ∃ c, Ix c pre W ∧ W.heap[L]? = some (.loop (R .done (some c))) ∧ W.heap[w.heap.size]? = some (.deferred (some []))) W1 (hb0.trans (hb1.mono hb0.size))
    ((hwalk hI).and ((hrec _ rfl L (by omega)).and (hrec _ rfl _ (Nat.le_refl _))))
    (fun s A B row ⟨c, hs⟩ hg' hr => ⟨c, (hwalk (hIx c)).and ((hrec _ rfl L (by omega)).and (hrec _ rfl _ (Nat.le_refl _))) s A B row hs hg' hr⟩)
    (fun pre W h => hG pre W h.1) ?_ ⟨hi1, hl1, hd1⟩).mono ?_
  · rintro pre x W ⟨hi, hl, hd⟩ hlen
    have hy := run_yield (P := P) (args := encs x) hl (by rw [hR]; exact hps x)
    rw [hR] at hy
    refine ⟨fn, _, assign, body, hy, roundIn_of_wpIn hfn (hassign _ pre x W _ hi fun a' V hkf hkp hiv hax => ?_)⟩
    have lv := hkf.same _ _ (show w.heap.size ≤ L by omega) hl rfl
    have dv := hkf.same _ _ (Nat.le_refl _) hd rfl
    refine ⟨_, run_beginRound lv (by rw [hR]), ?_⟩
    obtain ⟨V2, hV2⟩ : ∃ V2, V2 = V.putObj L (.loop { R .ready none with state := .busy }) := ⟨_, rfl⟩
    rw [← hV2]
    have l2 : V2.heap[L]? = some (.loop { R .ready none with state := .busy }) := by rw [hV2]; exact World.putObj_heap_same (Array.getElem?_eq_some_iff.1 lv).1
    have d2 : V2.heap[w.heap.size]? = some (.deferred (some [])) := by rw [hV2]; exact (World.putObj_heap_other (by omega)).trans dv
    have i2 : I pre V2 := by rw [hV2]; exact hI.put _ hiv (by omega) lv rfl
    have x2 : Ax x a' V2 := by rw [hV2]; exact (hAx x a').put (s := ()) _ hax (by omega) lv rfl
    have k2 : Kp V V2 := by rw [hV2]; exact hKb _ _ _ _ (by omega) lv rfl rfl
    refine wpIn_mono (hbody _ pre x a' V2 i2 x2 hlen) ?_
    have out : ∀ (jump : Option Code) (V3 : World), KeepsFrom w.heap.size V2 V3 → ∃ V4, V4 = V3.putObj L (.loop (R (if jump.isNone then .ready else .done) jump)) ∧ (Instr.endRound L jump).run P V3 = .ok (.bool jump.isNone) V4 ∧
        V3.heap[L]? = some (.loop { R .ready none with state := .busy }) ∧ V4.heap[L]? = some (.loop (R (if jump.isNone then .ready else .done) jump)) ∧ V4.heap[w.heap.size]? = some (.deferred (some [])) := fun jump V3 h => by
      have l3 := h.same _ _ (show w.heap.size ≤ L by omega) l2 rfl
      have d3 := h.same _ _ (Nat.le_refl _) d2 rfl
      have e := run_endRound (P := P) jump l3
      rw [hR] at e l3 ⊢
      exact ⟨_, rfl, e, l3, World.putObj_heap_same (Array.getElem?_eq_some_iff.1 l3).1, (World.putObj_heap_other (by omega)).trans d3⟩
    rintro ex a3 V3 hp
    have leave : ∀ c : Code, KeepsFrom w.heap.size V2 V3 ∧ Ix c (pre ++ [x]) V3 → ∃ v V4, (Instr.endRound L (some c)).run P V3 = .ok v V4 ∧ ((Ending.returned v = .returned (.bool true) ∧ (I (pre ++ [x]) V4 ∧ V4.heap[L]? = some (.loop (R .ready none)) ∧ V4.heap[w.heap.size]? = some (.deferred (some []))) ∧ Kp W V4) ∨
        (Ending.returned v = .returned (.bool false) ∧ ∃ c, Ix c (pre ++ [x]) V4 ∧ V4.heap[L]? = some (.loop (R .done (some c))) ∧ V4.heap[w.heap.size]? = some (.deferred (some [])))) := fun c ⟨hk, hx⟩ => by
      obtain ⟨V4, e4, hr, l3, l4, d4⟩ := out (some c) V3 hk
      exact ⟨_, V4, hr, .inr ⟨rfl, c, by rw [e4]; exact (hIx c).put _ hx (by omega) l3 rfl, l4, d4⟩⟩
    cases ex with
    | normal =>
      obtain ⟨hk, hkp3, hi3⟩ := hp
      obtain ⟨V4, e4, hr, l3, l4, d4⟩ := out none V3 hk
      exact ⟨_, V4, hr, .inl ⟨rfl, ⟨by rw [e4]; exact hI.put _ hi3 (by omega) l3 rfl, l4, d4⟩, hKt hkp (hKt (hKt k2 hkp3) (by rw [e4]; exact hKb _ _ _ _ (by omega) l3 rfl rfl))⟩⟩
    | ret => exact leave _ hp
    | exit id => exact leave _ hp
    | goto t => exact leave _ hp
    | panic ch => exact hp.elim
    | outgrown => exact hp.elim
  · rintro e W2 ⟨⟨v, rfl⟩, (⟨xs, hS, ⟨hi, hl, hd⟩, ht⟩ | ⟨pre, hSp, c, hi, hl, hd⟩)⟩
    · refine ⟨none, _, by have h := run_endLoop (P := P) hl (by rw [hR]; simp); rw [hR] at h; exact h, hdone _ xs _ (Nat.le_refl _) hS (hI.put _ hi (by omega) hl rfl) (hT.put _ ht (by omega) hl rfl) ((World.putObj_heap_other (by omega)).trans hd)⟩
    · exact ⟨some c, _, by have h := run_endLoop (P := P) hl (by rw [hR]; simp); rw [hR] at h; exact h, hstop _ c pre _ (Nat.le_refl _) hSp ((hIx c).put _ hi (by omega) hl rfl) ((World.putObj_heap_other (by omega)).trans hd)⟩
end
end Go.Proofs.YtkkcbkfpaoldmaaGreatDoor

/- A loop over an iterator that says something of each element as it hands it out. -/
namespace Go.Proofs.YtkkcbkfpaoldmaaGreatDoor
open Go Go.RowKit

section
variable {α : Type} {F : Fence} {n : Nat} {P : Program}
/-- What the iterator does, in whatever rounds that know G of what has come; V holds of an element when it is handed out. -/
def SeqV (F : Fence) (n : Nat) (P : Program) (g : Nat) (lb : Array Value) (encs : α → Array Value) (Kp : World → World → Prop) (Mb : Option Nat) (G : List α → Prop) (Vf : List α → α → World → Prop) (S Sp : List α → Prop) (T : List α → World → Prop) (N : Nat) (w : World) : Prop :=
  ∀ (l : Nat) (J Jx : List α → World → Prop) (W : World), Below w.heap.size w W → BearsM (·.isWalk) W.heap.size Mb J → BearsM (·.isWalk) W.heap.size Mb Jx → (∀ pre W, J pre W → G pre) →
    (∀ pre x W1, J pre W1 → Vf pre x W1 → pre.length < N → YieldAt F (n - 1) P l (encs x) W1 fun e W' => (e = .returned (.bool true) ∧ J (pre ++ [x]) W' ∧ Kp W1 W') ∨ (e = .returned (.bool false) ∧ Jx (pre ++ [x]) W')) →
    J [] W → CallsIn F n P g (#[.func (.yield l) #[] #[]] ++ lb) W fun e W' => (∃ v, e = .returned v) ∧ ((∃ xs, S xs ∧ J xs W' ∧ T xs W') ∨ (∃ pre, Sp pre ∧ Jx pre W'))
theorem wpIn_rangeV {g : Operand} {ps : Array Tmp} {assign body : Code} {Q : Exit → Act → World → Prop} {a : Act} {w : World} (hro : F.round = none) (h1 : 1 ≤ n) {gf : Nat} {lb : Array Value} (hg : a.eval g = .func (.func gf) #[] lb) (hFg : F.fn gf)
    (eg : ∀ args w, (callFunc gf args).run P w = .ok (.enter gf args) w) {encs : α → Array Value} {Kp : World → World → Prop} {Mb : Option Nat} {G S Sp : List α → Prop} {Vf : List α → α → World → Prop} {T : List α → World → Prop} {N : Nat} {w0 : World}
    (hseq : SeqV F (n - 1) P gf lb encs Kp Mb G Vf S Sp T N w0) (hMb : ∀ b, Mb = some b → b < w.heap.size) (hKt : ∀ {A B C : World}, Kp A B → Kp B C → Kp A C)
    (hKb : ∀ (W : World) (l : Nat) (o o' : Obj), w.heap.size ≤ l → W.heap[l]? = some o → o.isCells = false → o.isWalk = false → Kp W (W.putObj l o')) (hb0 : Below w0.heap.size w0 w) (hps : ∀ x, (encs x).size = ps.size)
    (I : List α → World → Prop) (Ix : Code → List α → World → Prop) (hI : BearsM noCells w.heap.size Mb I) (hIx : ∀ c, BearsM noCells w.heap.size Mb (Ix c)) (hT : BearsM noCells w.heap.size none T) (hG : ∀ pre W, I pre W → G pre) (h0 : I [] w)
    (Ax : List α → α → Act → World → Prop) (hAx : ∀ pre x a', BearsM noCells w.heap.size none (fun (_ : Unit) W => Ax pre x a' W))
    (hassign : ∀ (l : Nat) (pre : List α) (x : α) (W : World) (K : Act → World → Prop), I pre W → Vf pre x W → (∀ a' W', KeepsFrom w.heap.size W W' → Kp W W' → I pre W' → Ax pre x a' W' → K a' W') →
      assign.wpIn (F.inRound l) (n - 1 - 1) P (Exit.then K (fun _ _ _ => False)) { tmps := (ps.zip (encs x)).foldl (fun t (p, v) => t.setIfInBounds p v) a.tmps, defers := [] } W)
    (hbody : ∀ (l : Nat) (pre : List α) (x : α) (a' : Act) (W : World), I pre W → Ax pre x a' W → pre.length < N → body.wpIn (F.inRound l) (n - 1 - 1) P (ownPostG w.heap.size Kp I Ix (pre ++ [x]) W) a' W)
    (hdone : ∀ (D : Nat) (xs : List α) (W : World), w.heap.size ≤ D → S xs → I xs W → T xs W → W.heap[D]? = some (.deferred (some [])) → Q .normal { a with defers := { target := .collected D, args := #[] } :: a.defers } W)
    (hstop : ∀ (D : Nat) (c : Code) (pre : List α) (W : World), w.heap.size ≤ D → Sp pre → Ix c pre W → W.heap[D]? = some (.deferred (some [])) → c.wpIn F n P Q { a with defers := { target := .collected D, args := #[] } :: a.defers } W) :
    (Code.rangeFunc g ps assign body).wpIn F n P Q a w := by
  refine wpIn_rangeFunc fun fn hfn => ?_
  rw [hro]
  -- the loop's record, in its states
  have hRec : ∃ R : LoopState → Option Code → Loop, R = fun st pe => { state := st, pending := pe, fn, tmps := a.tmps, params := ps, assign, body, defers := w.heap.size } := ⟨_, rfl⟩
  obtain ⟨R, hR⟩ := hRec
  obtain ⟨L, hL⟩ : ∃ L, L = w.heap.size + 1 := ⟨_, rfl⟩
  have hne : ∀ b, w.heap.size ≤ b → Mb ≠ some b := fun b hb e => by have := hMb b e; omega
  obtain ⟨W1, hW1⟩ : ∃ W1, (w.alloc (.deferred (some []))).alloc (.loop (R .ready none)) = W1 := ⟨_, rfl⟩
  have hb1 : Below w.heap.size w W1 := by rw [← hW1]; exact ((Below.refl _ w).alloc (Nat.le_refl _) _).alloc (by simp) _
  have hsz : W1.heap.size = w.heap.size + 2 := by rw [← hW1]; simp
  have hl1 : W1.heap[L]? = some (.loop (R .ready none)) := by
    have h := World.alloc_heap_new (w.alloc (.deferred (some []))) (.loop (R .ready none))
    rw [World.size_alloc, hW1] at h
    rw [hL]
    exact h
  have hd1 : W1.heap[w.heap.size]? = some (.deferred (some [])) := by
    rw [← hW1]
    exact (Below.heap_alloc _ _ _ (by simp)).trans (World.alloc_heap_new w _)
  have hi1 : I [] W1 := by rw [← hW1]; exact hI.new _ (hI.new _ h0)
  have hwalk : ∀ {β : Type} {J : β → World → Prop}, BearsM noCells w.heap.size Mb J → BearsM (·.isWalk) W1.heap.size Mb J := fun hJ s A B row hs hg' hr => hJ s A B row hs hg' fun r e => by
    rcases hr r e with ⟨hB, o, ho, hw⟩ | h
    · exact .inl ⟨by omega, o, ho, by simp [noCells, Obj.not_cells_of_walk hw]⟩
    · exact .inr h
  have hrec : ∀ {β : Type} (o : Obj), o.isWalk = false → ∀ b, w.heap.size ≤ b → BearsM (·.isWalk) W1.heap.size Mb (fun (_ : β) W => W.heap[b]? = some o) := fun o ho b hb s A B row hs hg' hr => bears_at (hne b hb) ho () A B row hs hg' hr
  refine ⟨L, [{ target := .collected w.heap.size, args := #[] }], W1, { target := .fn (.func gf) lb, args := #[.func (.yield L) #[] #[]] }, W1, gf, #[.func (.yield L) #[] #[]] ++ lb, W1, ?_, ?_, ?_, ?_, fun _ => h1, ?_⟩
  · rw [← hW1, hR, hL]
    exact run_enterLoop_outer _ _ _ _ _
  · simp only [resolve, hg]
    simp [go_sem]
  · intro f' hf'
    simp [Target.leads] at hf'
    subst hf'
    exact hFg
  · simp [invoke, go_sem, eg]
  refine (hseq L (fun pre W => I pre W ∧ W.heap[L]? = some (.loop (R .ready none)) ∧ W.heap[w.heap.size]? = some (.deferred (some [])))
    (fun pre W => ∃ c, Ix c pre W ∧ W.heap[L]? = some (.loop (R .done (some c))) ∧ W.heap[w.heap.size]? = some (.deferred (some []))) W1 (hb0.trans (hb1.mono hb0.size))
    ((hwalk hI).and ((hrec _ rfl L (by omega)).and (hrec _ rfl _ (Nat.le_refl _))))
    (fun s A B row ⟨c, hs⟩ hg' hr => ⟨c, (hwalk (hIx c)).and ((hrec _ rfl L (by omega)).and (hrec _ rfl _ (Nat.le_refl _))) s A B row hs hg' hr⟩)
    (fun pre W h => hG pre W h.1) ?_ ⟨hi1, hl1, hd1⟩).mono ?_
  · rintro pre x W ⟨hi, hl, hd⟩ hvf hlen
    have hy := run_yield (P := P) (args := encs x) hl (by rw [hR]; exact hps x)
    rw [hR] at hy
    refine ⟨fn, _, assign, body, hy, roundIn_of_wpIn hfn (hassign _ pre x W _ hi hvf fun a' V hkf hkp hiv hax => ?_)⟩
    have lv := hkf.same _ _ (show w.heap.size ≤ L by omega) hl rfl
    have dv := hkf.same _ _ (Nat.le_refl _) hd rfl
    refine ⟨_, run_beginRound lv (by rw [hR]), ?_⟩
    obtain ⟨V2, hV2⟩ : ∃ V2, V2 = V.putObj L (.loop { R .ready none with state := .busy }) := ⟨_, rfl⟩
    rw [← hV2]
    have l2 : V2.heap[L]? = some (.loop { R .ready none with state := .busy }) := by rw [hV2]; exact World.putObj_heap_same (Array.getElem?_eq_some_iff.1 lv).1
    have d2 : V2.heap[w.heap.size]? = some (.deferred (some [])) := by rw [hV2]; exact (World.putObj_heap_other (by omega)).trans dv
    have i2 : I pre V2 := by rw [hV2]; exact hI.put _ hiv (by omega) lv rfl
    have x2 : Ax pre x a' V2 := by rw [hV2]; exact (hAx pre x a').put (s := ()) _ hax (by omega) lv rfl
    have k2 : Kp V V2 := by rw [hV2]; exact hKb _ _ _ _ (by omega) lv rfl rfl
    refine wpIn_mono (hbody _ pre x a' V2 i2 x2 hlen) ?_
    have out : ∀ (jump : Option Code) (V3 : World), KeepsFrom w.heap.size V2 V3 → ∃ V4, V4 = V3.putObj L (.loop (R (if jump.isNone then .ready else .done) jump)) ∧ (Instr.endRound L jump).run P V3 = .ok (.bool jump.isNone) V4 ∧
        V3.heap[L]? = some (.loop { R .ready none with state := .busy }) ∧ V4.heap[L]? = some (.loop (R (if jump.isNone then .ready else .done) jump)) ∧ V4.heap[w.heap.size]? = some (.deferred (some [])) := fun jump V3 h => by
      have l3 := h.same _ _ (show w.heap.size ≤ L by omega) l2 rfl
      have d3 := h.same _ _ (Nat.le_refl _) d2 rfl
      have e := run_endRound (P := P) jump l3
      rw [hR] at e l3 ⊢
      exact ⟨_, rfl, e, l3, World.putObj_heap_same (Array.getElem?_eq_some_iff.1 l3).1, (World.putObj_heap_other (by omega)).trans d3⟩
    rintro ex a3 V3 hp
    have leave : ∀ c : Code, KeepsFrom w.heap.size V2 V3 ∧ Ix c (pre ++ [x]) V3 → ∃ v V4, (Instr.endRound L (some c)).run P V3 = .ok v V4 ∧ ((Ending.returned v = .returned (.bool true) ∧ (I (pre ++ [x]) V4 ∧ V4.heap[L]? = some (.loop (R .ready none)) ∧ V4.heap[w.heap.size]? = some (.deferred (some []))) ∧ Kp W V4) ∨
        (Ending.returned v = .returned (.bool false) ∧ ∃ c, Ix c (pre ++ [x]) V4 ∧ V4.heap[L]? = some (.loop (R .done (some c))) ∧ V4.heap[w.heap.size]? = some (.deferred (some [])))) := fun c ⟨hk, hx⟩ => by
      obtain ⟨V4, e4, hr, l3, l4, d4⟩ := out (some c) V3 hk
      exact ⟨_, V4, hr, .inr ⟨rfl, c, by rw [e4]; exact (hIx c).put _ hx (by omega) l3 rfl, l4, d4⟩⟩
    cases ex with
    | normal =>
      obtain ⟨hk, hkp3, hi3⟩ := hp
      obtain ⟨V4, e4, hr, l3, l4, d4⟩ := out none V3 hk
      exact ⟨_, V4, hr, .inl ⟨rfl, ⟨by rw [e4]; exact hI.put _ hi3 (by omega) l3 rfl, l4, d4⟩, hKt hkp (hKt (hKt k2 hkp3) (by rw [e4]; exact hKb _ _ _ _ (by omega) l3 rfl rfl))⟩⟩
    | ret => exact leave _ hp
    | exit id => exact leave _ hp
    | goto t => exact leave _ hp
    | panic ch => exact hp.elim
    | outgrown => exact hp.elim
  · rintro e W2 ⟨⟨v, rfl⟩, (⟨xs, hS, ⟨hi, hl, hd⟩, ht⟩ | ⟨pre, hSp, c, hi, hl, hd⟩)⟩
    · refine ⟨none, _, by have h := run_endLoop (P := P) hl (by rw [hR]; simp); rw [hR] at h; exact h, hdone _ xs _ (Nat.le_refl _) hS (hI.put _ hi (by omega) hl rfl) (hT.put _ ht (by omega) hl rfl) ((World.putObj_heap_other (by omega)).trans hd)⟩
    · exact ⟨some c, _, by have h := run_endLoop (P := P) hl (by rw [hR]; simp); rw [hR] at h; exact h, hstop _ c pre _ (Nat.le_refl _) hSp ((hIx c).put _ hi (by omega) hl rfl) ((World.putObj_heap_other (by omega)).trans hd)⟩
end
end Go.Proofs.YtkkcbkfpaoldmaaGreatDoor

/- A loop over an iterator that writes blocks of its own; what the rounds rely on lies below the block where the loop began. -/
namespace Go.Proofs.YtkkcbkfpaoldmaaGreatDoor
open Go Go.RowKit

section
variable {α : Type} {F : Fence} {n : Nat} {P : Program}
/-- What the iterator does, in whatever rounds that know G of what has come; V holds of an element when it is handed out. -/
def SeqB (F : Fence) (n : Nat) (P : Program) (g : Nat) (lb : Array Value) (encs : α → Array Value) (Kp : World → World → Prop) (G : List α → Prop) (Vf : List α → α → World → Prop) (S Sp : List α → Prop) (N : Nat) (w : World) : Prop :=
  ∀ (l : Nat) (J Jx : List α → World → Prop) (W : World), Below w.heap.size w W → (∀ s A B, J s A → Below W.heap.size A B → J s B) → (∀ s A B, Jx s A → Below W.heap.size A B → Jx s B) → (∀ pre W, J pre W → G pre) →
    (∀ pre x W1, J pre W1 → Vf pre x W1 → pre.length < N → YieldAt F (n - 1) P l (encs x) W1 fun e W' => (e = .returned (.bool true) ∧ J (pre ++ [x]) W' ∧ Kp W1 W') ∨ (e = .returned (.bool false) ∧ Jx (pre ++ [x]) W')) →
    J [] W → CallsIn F n P g (#[.func (.yield l) #[] #[]] ++ lb) W fun e W' => (∃ v, e = .returned v) ∧ ((∃ xs, S xs ∧ J xs W') ∨ (∃ pre, Sp pre ∧ Jx pre W'))
theorem wpIn_rangeB {g : Operand} {ps : Array Tmp} {assign body : Code} {Q : Exit → Act → World → Prop} {a : Act} {w : World} (hro : F.round = none) (h1 : 1 ≤ n) {gf : Nat} {lb : Array Value} (hg : a.eval g = .func (.func gf) #[] lb) (hFg : F.fn gf)
    (eg : ∀ args w, (callFunc gf args).run P w = .ok (.enter gf args) w) {encs : α → Array Value} {Kp : World → World → Prop} {G S Sp : List α → Prop} {Vf : List α → α → World → Prop} {N : Nat} {w0 : World}
    (hseq : SeqB F (n - 1) P gf lb encs Kp G Vf S Sp N w0) (hKt : ∀ {A B C : World}, Kp A B → Kp B C → Kp A C)
    (hKb : ∀ (W : World) (l : Nat) (o o' : Obj), w.heap.size ≤ l → W.heap[l]? = some o → o.isCells = false → o.isWalk = false → Kp W (W.putObj l o')) (hb0 : Below w0.heap.size w0 w) (hps : ∀ x, (encs x).size = ps.size)
    (I : List α → World → Prop) (Ix : Code → List α → World → Prop) (hI : ∀ s A B, I s A → Below w.heap.size A B → I s B) (hIx : ∀ c s A B, Ix c s A → Below w.heap.size A B → Ix c s B) (hG : ∀ pre W, I pre W → G pre) (h0 : I [] w)
    (Ax : List α → α → Act → World → Prop) (hAx : ∀ pre x a', BearsM noCells w.heap.size none (fun (_ : Unit) W => Ax pre x a' W))
    (hassign : ∀ (l : Nat) (pre : List α) (x : α) (W : World) (K : Act → World → Prop), I pre W → Vf pre x W → (∀ a' W', KeepsFrom w.heap.size W W' → Kp W W' → I pre W' → Ax pre x a' W' → K a' W') →
      assign.wpIn (F.inRound l) (n - 1 - 1) P (Exit.then K (fun _ _ _ => False)) { tmps := (ps.zip (encs x)).foldl (fun t (p, v) => t.setIfInBounds p v) a.tmps, defers := [] } W)
    (hbody : ∀ (l : Nat) (pre : List α) (x : α) (a' : Act) (W : World), I pre W → Ax pre x a' W → pre.length < N → body.wpIn (F.inRound l) (n - 1 - 1) P (ownPostG w.heap.size Kp I Ix (pre ++ [x]) W) a' W)
    (hdone : ∀ (D : Nat) (xs : List α) (W : World), w.heap.size ≤ D → S xs → I xs W → W.heap[D]? = some (.deferred (some [])) → Q .normal { a with defers := { target := .collected D, args := #[] } :: a.defers } W)
    (hstop : ∀ (D : Nat) (c : Code) (pre : List α) (W : World), w.heap.size ≤ D → Sp pre → Ix c pre W → W.heap[D]? = some (.deferred (some [])) → c.wpIn F n P Q { a with defers := { target := .collected D, args := #[] } :: a.defers } W) :
    (Code.rangeFunc g ps assign body).wpIn F n P Q a w := by
  refine wpIn_rangeFunc fun fn hfn => ?_
  rw [hro]
  -- the loop's record, in its states
  have hRec : ∃ R : LoopState → Option Code → Loop, R = fun st pe => { state := st, pending := pe, fn, tmps := a.tmps, params := ps, assign, body, defers := w.heap.size } := ⟨_, rfl⟩
  obtain ⟨R, hR⟩ := hRec
  obtain ⟨L, hL⟩ : ∃ L, L = w.heap.size + 1 := ⟨_, rfl⟩
  obtain ⟨W1, hW1⟩ : ∃ W1, (w.alloc (.deferred (some []))).alloc (.loop (R .ready none)) = W1 := ⟨_, rfl⟩
  have hb1 : Below w.heap.size w W1 := by rw [← hW1]; exact ((Below.refl _ w).alloc (Nat.le_refl _) _).alloc (by simp) _
  have hsz : W1.heap.size = w.heap.size + 2 := by rw [← hW1]; simp
  have hl1 : W1.heap[L]? = some (.loop (R .ready none)) := by
    have h := World.alloc_heap_new (w.alloc (.deferred (some []))) (.loop (R .ready none))
    rw [World.size_alloc, hW1] at h
    rw [hL]
    exact h
  have hd1 : W1.heap[w.heap.size]? = some (.deferred (some [])) := by
    rw [← hW1]
    exact (Below.heap_alloc _ _ _ (by simp)).trans (World.alloc_heap_new w _)
  have hi1 : I [] W1 := hI _ _ _ h0 hb1
  have hrec : ∀ (o : Obj) (b : Nat), b < W1.heap.size → ∀ (A B : World), Below W1.heap.size A B → A.heap[b]? = some o → B.heap[b]? = some o := fun o b hb A B h ha => (h.block b hb).trans ha
  have hput : ∀ (A : World) (b : Nat) (o : Obj), w.heap.size ≤ b → Below w.heap.size A (A.putObj b o) := fun A b o hb => ⟨rfl, rfl, rfl, by simp [World.putObj], fun i hi => World.putObj_heap_other (by omega)⟩
  refine ⟨L, [{ target := .collected w.heap.size, args := #[] }], W1, { target := .fn (.func gf) lb, args := #[.func (.yield L) #[] #[]] }, W1, gf, #[.func (.yield L) #[] #[]] ++ lb, W1, ?_, ?_, ?_, ?_, fun _ => h1, ?_⟩
  · rw [← hW1, hR, hL]
    exact run_enterLoop_outer _ _ _ _ _
  · simp only [resolve, hg]
    simp [go_sem]
  · intro f' hf'
    simp [Target.leads] at hf'
    subst hf'
    exact hFg
  · simp [invoke, go_sem, eg]
  refine (hseq L (fun pre W => I pre W ∧ W.heap[L]? = some (.loop (R .ready none)) ∧ W.heap[w.heap.size]? = some (.deferred (some [])))
    (fun pre W => ∃ c, Ix c pre W ∧ W.heap[L]? = some (.loop (R .done (some c))) ∧ W.heap[w.heap.size]? = some (.deferred (some []))) W1 (hb0.trans (hb1.mono hb0.size))
    (fun s A B ⟨h1, h2, h3⟩ h => ⟨hI _ _ _ h1 (h.mono (by omega)), hrec _ L (by omega) A B h h2, hrec _ _ (by omega) A B h h3⟩)
    (fun s A B ⟨c, h1, h2, h3⟩ h => ⟨c, hIx c _ _ _ h1 (h.mono (by omega)), hrec _ L (by omega) A B h h2, hrec _ _ (by omega) A B h h3⟩)
    (fun pre W h => hG pre W h.1) ?_ ⟨hi1, hl1, hd1⟩).mono ?_
  · rintro pre x W ⟨hi, hl, hd⟩ hvf hlen
    have hy := run_yield (P := P) (args := encs x) hl (by rw [hR]; exact hps x)
    rw [hR] at hy
    refine ⟨fn, _, assign, body, hy, roundIn_of_wpIn hfn (hassign _ pre x W _ hi hvf fun a' V hkf hkp hiv hax => ?_)⟩
    have lv := hkf.same _ _ (show w.heap.size ≤ L by omega) hl rfl
    have dv := hkf.same _ _ (Nat.le_refl _) hd rfl
    refine ⟨_, run_beginRound lv (by rw [hR]), ?_⟩
    obtain ⟨V2, hV2⟩ : ∃ V2, V2 = V.putObj L (.loop { R .ready none with state := .busy }) := ⟨_, rfl⟩
    rw [← hV2]
    have l2 : V2.heap[L]? = some (.loop { R .ready none with state := .busy }) := by rw [hV2]; exact World.putObj_heap_same (Array.getElem?_eq_some_iff.1 lv).1
    have d2 : V2.heap[w.heap.size]? = some (.deferred (some [])) := by rw [hV2]; exact (World.putObj_heap_other (by omega)).trans dv
    have i2 : I pre V2 := by rw [hV2]; exact hI _ _ _ hiv (hput _ _ _ (by omega))
    have x2 : Ax pre x a' V2 := by rw [hV2]; exact (hAx pre x a').put (s := ()) _ hax (by omega) lv rfl
    have k2 : Kp V V2 := by rw [hV2]; exact hKb _ _ _ _ (by omega) lv rfl rfl
    refine wpIn_mono (hbody _ pre x a' V2 i2 x2 hlen) ?_
    have out : ∀ (jump : Option Code) (V3 : World), KeepsFrom w.heap.size V2 V3 → ∃ V4, V4 = V3.putObj L (.loop (R (if jump.isNone then .ready else .done) jump)) ∧ (Instr.endRound L jump).run P V3 = .ok (.bool jump.isNone) V4 ∧
        V3.heap[L]? = some (.loop { R .ready none with state := .busy }) ∧ V4.heap[L]? = some (.loop (R (if jump.isNone then .ready else .done) jump)) ∧ V4.heap[w.heap.size]? = some (.deferred (some [])) := fun jump V3 h => by
      have l3 := h.same _ _ (show w.heap.size ≤ L by omega) l2 rfl
      have d3 := h.same _ _ (Nat.le_refl _) d2 rfl
      have e := run_endRound (P := P) jump l3
      rw [hR] at e l3 ⊢
      exact ⟨_, rfl, e, l3, World.putObj_heap_same (Array.getElem?_eq_some_iff.1 l3).1, (World.putObj_heap_other (by omega)).trans d3⟩
    rintro ex a3 V3 hp
    have leave : ∀ c : Code, KeepsFrom w.heap.size V2 V3 ∧ Ix c (pre ++ [x]) V3 → ∃ v V4, (Instr.endRound L (some c)).run P V3 = .ok v V4 ∧ ((Ending.returned v = .returned (.bool true) ∧ (I (pre ++ [x]) V4 ∧ V4.heap[L]? = some (.loop (R .ready none)) ∧ V4.heap[w.heap.size]? = some (.deferred (some []))) ∧ Kp W V4) ∨
        (Ending.returned v = .returned (.bool false) ∧ ∃ c, Ix c (pre ++ [x]) V4 ∧ V4.heap[L]? = some (.loop (R .done (some c))) ∧ V4.heap[w.heap.size]? = some (.deferred (some [])))) := fun c ⟨hk, hx⟩ => by
      obtain ⟨V4, e4, hr, l3, l4, d4⟩ := out (some c) V3 hk
      exact ⟨_, V4, hr, .inr ⟨rfl, c, by rw [e4]; exact hIx c _ _ _ hx (hput _ _ _ (by omega)), l4, d4⟩⟩
    cases ex with
    | normal =>
      obtain ⟨hk, hkp3, hi3⟩ := hp
      obtain ⟨V4, e4, hr, l3, l4, d4⟩ := out none V3 hk
      exact ⟨_, V4, hr, .inl ⟨rfl, ⟨by rw [e4]; exact hI _ _ _ hi3 (hput _ _ _ (by omega)), l4, d4⟩, hKt hkp (hKt (hKt k2 hkp3) (by rw [e4]; exact hKb _ _ _ _ (by omega) l3 rfl rfl))⟩⟩
    | ret => exact leave _ hp
    | exit id => exact leave _ hp
    | goto t => exact leave _ hp
    | panic ch => exact hp.elim
    | outgrown => exact hp.elim
  · rintro e W2 ⟨⟨v, rfl⟩, (⟨xs, hS, hi, hl, hd⟩ | ⟨pre, hSp, c, hi, hl, hd⟩)⟩
    · refine ⟨none, _, by have h := run_endLoop (P := P) hl (by rw [hR]; simp); rw [hR] at h; exact h, hdone _ xs _ (Nat.le_refl _) hS (hI _ _ _ hi (hput _ _ _ (by omega))) ((World.putObj_heap_other (by omega)).trans hd)⟩
    · exact ⟨some c, _, by have h := run_endLoop (P := P) hl (by rw [hR]; simp); rw [hR] at h; exact h, hstop _ c pre _ (Nat.le_refl _) hSp (hIx c _ _ _ hi (hput _ _ _ (by omega))) ((World.putObj_heap_other (by omega)).trans hd)⟩
end
end Go.Proofs.YtkkcbkfpaoldmaaGreatDoor

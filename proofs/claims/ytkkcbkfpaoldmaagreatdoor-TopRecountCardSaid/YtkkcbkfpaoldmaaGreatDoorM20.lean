/- Several texts in one: N57, N58. -/
import Derived.Test.YtkkcbkfpaoldmaaGreatDoorM19
import Derived.RecoverIn
/- Walk: recount.Run: what it needs. -/
namespace Go.Proofs.YtkkcbkfpaoldmaaGreatDoor
open Go Go.RowKit Go.Shelf

/-- The recount, by what each look says. -/
def runB (nd : Nat) : List Bool → Nat → Nat → Nat → Nat × Nat × Nat
  | [], s, a, k => (s, a, k)
  | x :: r, s, a, k => if s = 0 then (if x then (if a + 1 = nd then runB nd r 1 (a + 1) (k + 1) else runB nd r 0 (a + 1) (k + 1)) else runB nd r 2 a (k + 1)) else (s, a, k)
theorem runB_runR (nd : Nat) (ag : List Bool) : ∀ (o : List Int) (s a k : Nat), runB nd (o.map fun x => ag.getD x.toNat false) s a k = runR nd ag o s a k
  | [], _, _, _ => rfl
  | x :: r, s, a, k => by
    rw [List.map_cons, runB, runR]
    simp only [runB_runR nd ag r]
theorem runB_done (nd : Nat) (l : List Bool) (s a k : Nat) (h : s ≠ 0) : runB nd l s a k = (s, a, k) := by
  cases l with
  | nil => rfl
  | cons x r => rw [runB, if_neg h]
theorem runB_append (nd : Nat) (y : List Bool) : ∀ (l : List Bool) (s a k s' a' k' : Nat), runB nd l s a k = (s', a', k') → runB nd (l ++ y) s a k = runB nd y s' a' k'
  | [], s, a, k, s', a', k', h => by
    simp only [runB, Prod.mk.injEq] at h
    obtain ⟨rfl, rfl, rfl⟩ := h
    rfl
  | x :: r, s, a, k, s', a', k', h => by
    rw [runB] at h
    rw [List.cons_append, runB]
    by_cases h0 : s = 0
    · rw [if_pos h0] at h ⊢
      split
      · rename_i hx
        rw [if_pos hx] at h
        split
        · rename_i hy
          rw [if_pos hy] at h
          exact runB_append nd y r _ _ _ _ _ _ h
        · rename_i hy
          rw [if_neg hy] at h
          exact runB_append nd y r _ _ _ _ _ _ h
      · rename_i hx
        rw [if_neg hx] at h
        exact runB_append nd y r _ _ _ _ _ _ h
    · rw [if_neg h0] at h ⊢
      simp only [Prod.mk.injEq] at h
      obtain ⟨rfl, rfl, rfl⟩ := h
      rw [runB_done _ _ _ _ _ h0]
theorem runB_step (nd : Nat) (l : List Bool) (x : Bool) (s a k : Nat) (a' k' : Nat) (h : runB nd l s a k = (0, a', k')) : runB nd (l ++ [x]) s a k = if x then ((if a' + 1 = nd then 1 else 0), a' + 1, k' + 1) else (2, a', k' + 1) := by
  rw [runB_append nd [x] l s a k 0 a' k' h, runB, if_pos rfl]
  cases x
  · simp [runB]
  · simp only [if_true]
    split <;> rfl
theorem runB_bound (nd : Nat) : ∀ (l : List Bool) (s a k : Nat), (runB nd l s a k).2.1 ≤ a + l.length ∧ (runB nd l s a k).2.2 ≤ k + l.length
  | [], _, _, _ => ⟨by simp [runB], by simp [runB]⟩
  | x :: r, s, a, k => by
    rw [runB, List.length_cons]
    split
    · split
      · split
        · have h := runB_bound nd r 1 (a + 1) (k + 1)
          omega
        · have h := runB_bound nd r 0 (a + 1) (k + 1)
          omega
      · have h := runB_bound nd r 2 a (k + 1)
        omega
    · simp only
      omega
/-- What the looks say, up to a place. -/
def preOf (o : List Int) (ag : List Bool) (k : Nat) : List Bool := (List.range k).map (agAt o ag)
theorem preOf_succ (o : List Int) (ag : List Bool) (k : Nat) : preOf o ag (k + 1) = preOf o ag k ++ [agAt o ag k] := by simp [preOf, List.range_succ]
theorem preOf_len (o : List Int) (ag : List Bool) (k : Nat) : (preOf o ag k).length = k := by simp [preOf]
theorem preOf_all (o : List Int) (ag : List Bool) : preOf o ag o.length = o.map fun x => ag.getD x.toNat false := by
  apply List.ext_getElem?
  intro i
  simp only [preOf, List.getElem?_map]
  by_cases h : i < o.length
  · rw [List.getElem?_range h, List.getElem?_eq_getElem h]
    simp [agAt, List.getD_eq_getElem?_getD, List.getElem?_eq_getElem h]
  · rw [List.getElem?_eq_none (by rw [List.length_range]; omega), List.getElem?_eq_none (by omega)]
    rfl
theorem runO_all (nd : Nat) (o : List Int) (ag : List Bool) : runB nd (preOf o ag o.length) (startR nd) 0 0 = runO nd ag o := by rw [preOf_all, runB_runR]; rfl
/-- A recount that is over at a place is over. -/
theorem runO_over (nd : Nat) (o : List Int) (ag : List Bool) (k s a l : Nat) (hk : k ≤ o.length) (h : runB nd (preOf o ag k) (startR nd) 0 0 = (s, a, l)) (hs : s ≠ 0) : runO nd ag o = (s, a, l) := by
  obtain ⟨d, hd⟩ : ∃ d, o.length = k + d := ⟨o.length - k, by omega⟩
  rw [← runO_all, hd]
  have hsp : preOf o ag (k + d) = preOf o ag k ++ (List.range d).map (fun i => agAt o ag (k + i)) := by simp [preOf, List.range_add]
  rw [hsp, runB_append nd _ _ _ _ _ _ _ _ h, runB_done _ _ _ _ _ hs]
set_option maxRecDepth 100000 in
theorem rccaught_in (n : Nat) (p : Addr) (w : World) : CallsDIn Fence.wide n Tryz.prog 41 #[.pointer (some p)] .returning w fun e u' w' => e = .returned (.tuple #[]) ∧ u' = .returning ∧ w' = w := by
  refine callsDIn_of_wpSIn Tryz.func41 rfl trivial fun c₀ cs hu => ?_
  apply wpSIn_seq
  apply wpSIn_region
  simp [wpOpsSIn, go_sem, recoverD, hu, Tryz.ntmps41, Exit.thenS, Fence.wide]
  apply wpSIn_seq
  apply wpSIn_region
  simp [wpOpsSIn, go_sem, Exit.thenS]
  refine wpSIn_cond (t := false) (by simp [Act.eval, Array.replicate]) ?_
  simp only [Bool.false_eq_true, if_false]
  refine wpSIn_of_wpIn rfl (wpIn_wide.2 (wp_skip ?_))
  cases c₀
  simp_all [bodyPostS, results, Tryz.results41]
theorem boInfo_eq : Tryz.prog.info? 4 = some ((Tryz.prog.info? 4).getD default) := by kernel_rfl
theorem madeCells_bool (n : Nat) : madeCells (Value.bool false).cells n = Array.replicate n (Value.bool false) := by
  apply Array.ext
  · simp [madeCells]
  · intro k h1 h2
    simp [madeCells, Value.cells, Nat.mod_one]
section
variable {ops : Array Oper} {rest : List Oper} {o : Oper} {a : Act} {Q : Exit → Act → World → Prop}
theorem make_bools (hg : o.guard = none) (l : Operand) (hop : o.op = Op.makeSlice 42 l l) {w : World} (n : Nat) (hl : a.eval l = .int .i64 n) (hn : n ≤ 1048576)
    (hK : ∀ w', w' = w.alloc (.cells (Array.replicate n (.bool false)) 4) → wpList Tryz.prog ops Q rest (a.put o.dst (.slice (some ⟨w.heap.size, 0, none⟩) n n)) w') :
    wpList Tryz.prog ops Q (o :: rest) a w := by
  refine wpList_plain hg fun K hK' => ?_
  have hr := run_make (P := Tryz.prog) w 42 4 _ (.bool false) Tryz.underlying42 boInfo_eq (by kernel_rfl) .i64 .i64 n n (by omega) (Int.le_refl _) (by
    have e : ((Tryz.prog.info? 4).getD default).bytes = 1 := by kernel_rfl
    rw [e]; omega) (by omega)
  have e2 : ((Tryz.prog.info? 4).getD default).size = 1 := by kernel_rfl
  rw [e2] at hr
  simp only [Int.toNat_natCast, Nat.mul_one, madeCells_bool] at hr
  unfold Oper.wp
  simp [execOp, hop, hl, hr, Result.andThen]
  exact hK' _ _ (hK _ rfl)
end
end Go.Proofs.YtkkcbkfpaoldmaaGreatDoor

/- Walk: recount.Run. -/
namespace Go.Proofs.YtkkcbkfpaoldmaaGreatDoor
open Go Go.RowKit Go.Shelf
attribute [local go_sem] Oper.semAt_some

theorem rcsheets1_stops (n g1 g2 g3 b : Nat) (t1 t2 t3 : TypeId) (Ao Aa : Option Addr) (no co na ca : Nat) (o : List Int) (ag : List Bool) (hno : no ≤ 1000000) (hor : ∀ k, k < no → 0 ≤ o.getD k 0 ∧ o.getD k 0 < (na : Int)) (E : Nat → Prop) (W0 : World) (_hE : ∀ i, E i → i < W0.heap.size)
    (hE1 : ¬ E g1) (hE2 : ¬ E g2) (hE3 : ¬ E g3) (hEo : ∀ p, Ao = some p → ¬ E p.block) (hEa : ∀ p, Aa = some p → ¬ E p.block)
    (h1 : Blk W0 g1 t1 #[.slice Ao no co]) (h2 : Blk W0 g2 t2 #[.map (some b)]) (h3 : Blk W0 g3 t3 #[.slice Aa na ca]) (hm : W0.heap[b]? = some (.map lookE 2))
    (hRo : Rd W0 W0.heap.size Ao no (fun j => .int .i64 (o.getD j 0))) (hRa : Rd W0 W0.heap.size Aa na (fun j => .bool (ag.getD j false))) :
    SeqB Fence.wide n Tryz.prog 74 #[.pointer (some ⟨g1, 0, none⟩), .pointer (some ⟨g2, 0, none⟩), .pointer (some ⟨g3, 0, none⟩)] shEnc (KeptM E b) (fun _ => True) (shV o ag no) (fun xs => xs.length = no) (fun _ => True) no W0 := fun l J Jx W hW hJ _ _ hY h0 => by
  exact callsIn_wide.2 (rcsheets1_in n l g1 g2 g3 b t1 t2 t3 Ao Aa no co na ca o ag hno hor E J Jx W hE1 hE2 hE3 hEo hEa hJ hY (h1.below hW h1.lt) (h2.below hW h2.lt) (h3.below hW h3.lt) ((hW.block b (Array.getElem?_eq_some_iff.1 hm).1).trans hm) ((hRo.below hW).more hW.size) ((hRa.below hW).more hW.size) h0)
/-- What has been met. -/
def Met (c : Array Value) (o : List Int) (n k : Nat) : Prop := c.size = n ∧ ∀ j, j < n → c[j]? = some (.bool (decide ((j : Int) ∈ o.take k)))
theorem Met.zero (o : List Int) (n : Nat) : Met (Array.replicate n (.bool false)) o n 0 := ⟨by simp, fun j hj => by simp [hj]⟩
theorem Met.succ {c : Array Value} {o : List Int} {n k : Nat} (h : Met c o n k) (hk : k < o.length) (j : Nat) (hj : o.getD k 0 = (j : Int)) (hjn : j < n) : Met (c.setIfInBounds j (.bool true)) o n (k + 1) := by
  refine ⟨by simp [h.1], fun i hi => ?_⟩
  have e : o[k] = (j : Int) := by rw [List.getD_eq_getElem?_getD, List.getElem?_eq_getElem hk] at hj; exact hj
  rw [Array.getElem?_setIfInBounds, List.take_add_one, List.getElem?_eq_getElem hk, e]
  by_cases hij : j = i
  · subst hij
    simp [h.1, hjn]
  · rw [if_neg hij, h.2 i hi]
    have hne : ¬ ((i : Int) = (j : Int)) := by omega
    simp [hne]
theorem Met.free {c : Array Value} {o : List Int} {n k : Nat} (h : Met c o n k) (hn : o.Nodup) (hk : k < o.length) (j : Nat) (hj : o.getD k 0 = (j : Int)) (hjn : j < n) : c[j]? = some (.bool false) := by
  rw [h.2 j hjn]
  have e : o[k] = (j : Int) := by rw [List.getD_eq_getElem?_getD, List.getElem?_eq_getElem hk] at hj; exact hj
  have hni : ¬ ((j : Int) ∈ o.take k) := by
    intro hm
    obtain ⟨i, hi, he⟩ := List.mem_iff_getElem.1 hm
    simp only [List.length_take] at hi
    rw [List.getElem_take] at he
    have h2 := (List.pairwise_iff_getElem.1 hn) i k (by omega) hk (by omega)
    exact h2 (he.trans e.symm)
  simp [hni]
/-- What the rounds rely on. -/
def RunI (H : Nat) (n v : Int) (A3 : Option Addr) (n3 c3 : Nat) (A4 : Option Addr) (n4 c4 : Nat) (nd g9 : Nat) (o : List Int) (ag : List Bool) (w0 : World) (pre : List Bool) (W : World) : Prop :=
  ∃ (a s k : Nat), pre = preOf o ag pre.length ∧ runB nd pre (startR nd) 0 0 = (s, a, k) ∧ Blk W H 52 (recC n v A3 n3 c3 A4 n4 c4 a s) ∧ Blk W (H + 1) 52 (recC 0 0 none 0 0 none 0 0 0 0) ∧ Blk W (H + 2) 3 #[.int .i64 k] ∧ Blk W (H + 3) 32 #[.int .i64 0] ∧ Blk W g9 3 #[.int .i64 nd] ∧ Below H w0 W
theorem RunI.kept {H : Nat} {n v : Int} {A3 : Option Addr} {n3 c3 : Nat} {A4 : Option Addr} {n4 c4 nd g9 : Nat} {o : List Int} {ag : List Bool} {w0 : World} {pre : List Bool} {W W' : World} (h : RunI H n v A3 n3 c3 A4 n4 c4 nd g9 o ag w0 pre W)
    (hk : ∀ i, i < H + 4 ∨ i = g9 → W'.heap[i]? = W.heap[i]?) (hb : Below H W W') : RunI H n v A3 n3 c3 A4 n4 c4 nd g9 o ag w0 pre W' := by
  obtain ⟨a, s, k, h1, h2, b0, b1, b2, b3, b4, h3⟩ := h
  exact ⟨a, s, k, h1, h2, (hk _ (by omega)).trans b0, (hk _ (by omega)).trans b1, (hk _ (by omega)).trans b2, (hk _ (by omega)).trans b3, (hk _ (by omega)).trans b4, h3.trans hb⟩
theorem RunI.under {H : Nat} {n v : Int} {A3 : Option Addr} {n3 c3 : Nat} {A4 : Option Addr} {n4 c4 nd g9 : Nat} {o : List Int} {ag : List Bool} {w0 : World} {pre : List Bool} {W : World} (h : RunI H n v A3 n3 c3 A4 n4 c4 nd g9 o ag w0 pre W) : Below H w0 W := by
  obtain ⟨a, s, k, h1, h2, b0, b1, b2, b3, b4, h3⟩ := h
  exact h3
theorem RunI.g9lt {H : Nat} {n v : Int} {A3 : Option Addr} {n3 c3 : Nat} {A4 : Option Addr} {n4 c4 nd g9 : Nat} {o : List Int} {ag : List Bool} {w0 : World} {pre : List Bool} {W : World} (h : RunI H n v A3 n3 c3 A4 n4 c4 nd g9 o ag w0 pre W) : g9 < W.heap.size ∧ H + 4 ≤ W.heap.size := by
  obtain ⟨a, s, k, h1, h2, b0, b1, b2, b3, b4, h3⟩ := h
  exact ⟨b4.lt, b3.lt⟩
theorem RunI.below {H : Nat} {n v : Int} {A3 : Option Addr} {n3 c3 : Nat} {A4 : Option Addr} {n4 c4 nd g9 : Nat} {o : List Int} {ag : List Bool} {w0 : World} {pre : List Bool} {W W' : World} (h : RunI H n v A3 n3 c3 A4 n4 c4 nd g9 o ag w0 pre W) {B : Nat}
    (hb : Below B W W') (h9 : g9 < B) (h4 : H + 4 ≤ B) : RunI H n v A3 n3 c3 A4 n4 c4 nd g9 o ag w0 pre W' := h.kept (fun i hi => hb.block i (by omega)) (hb.mono (by omega))
def RunX (H : Nat) (n v : Int) (A3 : Option Addr) (n3 c3 : Nat) (A4 : Option Addr) (n4 c4 : Nat) (nd : Nat) (o : List Int) (ag : List Bool) (w0 : World) (cc c : Code) (W : World) : Prop :=
  ∃ (a s k : Nat), c = cc ∧ runO nd ag o = (s, a, k) ∧ Blk W H 52 (recC n v A3 n3 c3 A4 n4 c4 a s) ∧ Blk W (H + 1) 52 (recC 0 0 none 0 0 none 0 0 0 0) ∧ Blk W (H + 2) 3 #[.int .i64 k] ∧ Blk W (H + 3) 32 #[.int .i64 0] ∧ Below H w0 W
set_option maxRecDepth 100000 in
set_option linter.unusedSimpArgs false in
set_option linter.unusedVariables false in
set_option maxHeartbeats 8000000 in
theorem rcRun_ok (n v : Nat) (hn : n ≤ 5) (hn1 : 1 ≤ n) (hw1 : 1 ≤ v) (hw : v ≤ n) (A3 A4 : Option Addr) (n3 c3 n4 c4 : Nat) (Nn Dd : List Int) (Ao Aa : Option Addr) (co ca : Nat) (o : List Int) (ag : List Bool) (hol : o.length = n) (hal : ag.length = n) (hor : ∀ k, k < n → 0 ≤ o.getD k 0 ∧ o.getD k 0 < (n : Int)) (hod : o.Nodup)
    (s a kk nd : Nat) (hnd : nd = need n v (valL Nn) (valL Dd)) (hres : runO nd ag o = (s, a, kk)) (w0 : World) (hl : LimOk w0 w0.heap.size A3 n3 c3 A4 n4 c4 Nn Dd) (hRo : Rd w0 w0.heap.size Ao n (fun j => .int .i64 (o.getD j 0))) (hRa : Rd w0 w0.heap.size Aa n (fun j => .bool (ag.getD j false))) :
    Calls Tryz.prog 16 #[.agg (recC n v A3 n3 c3 A4 n4 c4 0 (startR nd : Nat)), .slice Ao n co, .slice Aa n ca] w0 (Ret (.tuple #[.agg (recC n v A3 n3 c3 A4 n4 c4 a s), .int .i64 kk, .int .i64 0]) w0) := by
  have hst : (startR nd = 1 ∧ (0 : Nat) = need n v (valL Nn) (valL Dd)) ∨ (startR nd = 0 ∧ (0 : Nat) < need n v (valL Nn) (valL Dd)) := by
    rw [← hnd]
    unfold startR
    by_cases h : nd = 0
    · exact .inl ⟨if_pos h, h.symm⟩
    · exact .inr ⟨if_neg h, by omega⟩
  have HRT := Lib.hid (show ∀ W, Below w0.heap.size w0 W → Calls Tryz.prog 42 #[.agg (recC n v A3 n3 c3 A4 n4 c4 0 (startR nd : Nat))] W (Ret (.int .i64 (need n v (valL Nn) (valL Dd) : Nat)) W) from fun W h => rcright_ok n v hn hw1 hw A3 A4 n3 c3 n4 c4 Nn Dd 0 (startR nd) hst W ((hl.below h).more h.size))
  rw [← hnd] at HRT
  have HRO := Lib.hid hRo
  have HRA := Lib.hid hRa
  have HOR := Lib.hid hor
  have HOD := Lib.hid hod
  have HRES := Lib.hid hres
  have hndn : nd ≤ n := by rw [hnd]; exact (need_spec n v hw1 hw _ _ hl.rat.num.val).2.1
  obtain ⟨st, hstt⟩ : ∃ st, st = startR nd := ⟨_, rfl⟩
  have hst3 : st ≤ 1 := by rw [hstt]; unfold startR; split <;> omega
  have HST := Lib.hid hstt
  have HL := Lib.hid hol
  rw [← hstt] at HRT ⊢
  clear hst hl hRo hRa hor hod hres hnd hstt hol hal
  refine (callsIn_wide (n := 5)).1 ?_
  refine callsIn_of_wp_marks Tryz.func16 rfl trivial ?_ rfl
  simp only [Tryz.ntmps16, List.size_toArray, List.length_cons, List.length_nil, Nat.reduceAdd, Nat.reduceSub, Array.replicate_succ, Array.replicate_zero, List.push_toArray, List.append_toArray, List.nil_append, List.cons_append]
  refine wpIn_wide.2 ?_
  go_wp2_with fail
  refine calls_gen (fun W => Blk W w0.heap.size 52 (recC n v A3 n3 c3 A4 n4 c4 0 st) ∧ Blk W (w0.heap.size + 1) 52 (recC 0 0 none 0 0 none 0 0 0 0) ∧ Blk W (w0.heap.size + 2) 3 #[.int .i64 0] ∧ Blk W (w0.heap.size + 3) 32 #[.int .i64 0] ∧ Below w0.heap.size w0 W)
    ⟨(((Blk.new _ _ _).alloc _).alloc _).alloc _, ((Blk.new' _ _ _ (by simp)).alloc _).alloc _, (Blk.new' _ _ _ (by simp)).alloc _, Blk.new' _ _ _ (by simp), ((((Below.refl _ w0).alloc (Nat.le_refl _) _).alloc (by simp) _).alloc (by simp; omega) _).alloc (by simp; omega) _⟩ (fun W0 ⟨b0, b1, b2, b3, hB0⟩ => ?_)
  refine (HRT.out W0 hB0).mono ?_
  rintro e W1 ⟨rfl, hb1⟩
  obtain ⟨H, hH⟩ : ∃ H, H = w0.heap.size := ⟨_, rfl⟩
  rw [← hH] at b0 b1 b2 b3 hB0 ⊢
  have HH := Lib.hid hH
  have d0 := b0.below hb1 b0.lt
  have d1 := b1.below hb1 b1.lt
  have d2 := b2.below hb1 b2.lt
  have d3 := b3.below hb1 b3.lt
  have hB1 : Below H w0 W1 := hB0.trans (hb1.mono (by rw [hH]; rw [hH] at hB0; exact hB0.size))
  obtain ⟨W2, hW2⟩ : ∃ W2, W2 = W1.alloc (.cells #[.int .i64 nd] 3) := ⟨_, rfl⟩
  obtain ⟨g9, hg9⟩ : ∃ g9, g9 = W1.heap.size := ⟨_, rfl⟩
  have hz1 : H + 4 ≤ g9 := by rw [hg9]; exact d3.lt
  have hB2 : Below H w0 W2 := by rw [hW2]; exact hB1.alloc (by omega) _
  have hD : Blk W2 H 52 (recC n v A3 n3 c3 A4 n4 c4 0 st) ∧ Blk W2 (H + 1) 52 (recC 0 0 none 0 0 none 0 0 0 0) ∧ Blk W2 (H + 2) 3 #[.int .i64 0] ∧ Blk W2 (H + 3) 32 #[.int .i64 0] ∧ Blk W2 g9 3 #[.int .i64 nd] := by
    rw [hW2, hg9]
    exact ⟨d0.alloc _, d1.alloc _, d2.alloc _, d3.alloc _, Blk.new _ _ _⟩
  have HW2 := Lib.hid hW2
  have HG9 := Lib.hid hg9
  have q0 : W2.cell? ⟨H, 0, none⟩ = some (.int .i64 n) := hD.1.cell 0
  have hgm : g9 < W2.heap.size := hD.2.2.2.2.lt
  have HD := Lib.hid hD
  have HB2 := Lib.hid hB2
  clear b0 b1 b2 b3 hB0 hb1 d0 d1 d2 d3 hH HRT hD hB1 hB2 hW2 hg9
  go_upto_region 3 with fail
  rw [← HW2.out, ← HG9.out]
  obtain ⟨gm, hgmm⟩ : ∃ gm, gm = W2.heap.size := ⟨_, rfl⟩
  have HGM := Lib.hid hgmm
  clear hgmm
  go_upto_region 4 with (refine make_bools rfl _ rfl n rfl (by omega) ?_; intro W3 hW3; have HW3 := Lib.hid hW3; clear hW3)
  have hI3 : RunI H n v A3 n3 c3 A4 n4 c4 nd g9 o ag w0 [] W3 ∧ Blk W3 gm 4 (Array.replicate n (.bool false)) := by
    rw [HW3.out, HGM.out]
    obtain ⟨d0, d1, d2, d3, d4⟩ := HD.out
    refine ⟨⟨0, st, 0, by simp [preOf], by rw [HST.out]; rfl, d0.alloc _, d1.alloc _, d2.alloc _, d3.alloc _, d4.alloc _, HB2.out.alloc (by omega) _⟩, Blk.new _ _ _⟩
  have HI3 := Lib.hid hI3.1
  have HM3 := Lib.hid hI3.2
  have q3 : W3.cell? ⟨H, 0, none⟩ = some (.int .i64 n) := by
    rw [HW3.out]
    exact (HD.out.1.alloc _).cell 0
  rw [← HGM.out]
  clear hI3 q0 HD HB2
  go_wp2_with fail
  refine (rcneed_ok 1 W3).mono ?_
  rintro e W4 ⟨rfl, rfl⟩
  clear q3
  go_wp2_with fail
  go_loopw [27] (fun i wr => ∃ (k : Nat) (c : Array Value), k ≤ n ∧ i = .int .i64 k ∧ Met c o n k ∧ Blk wr gm 4 c ∧ RunI H n v A3 n3 c3 A4 n4 c4 nd g9 o ag w0 [] wr) (fun i _ => n - (intOf i).toNat)
  case atStart => exact ⟨0, _, by omega, rfl, Met.zero o n, HM3.out, HI3.out⟩
  case round =>
    clear HI3 HM3 HW3
    obtain ⟨k, c, hk, rfl, hmet, hcb, hI⟩ := hrel
    have hgz : H + 4 < gm ∧ g9 < gm := by have := HGM.out; omega
    have HI := Lib.hid hI
    have HCB := Lib.hid hcb
    have HMET := Lib.hid hmet
    clear hI hcb hmet
    rcases Nat.lt_or_ge k n with hlt | hge
    · have g1' : decide ((k : Int) < (n : Int)) = true := decide_eq_true (by omega)
      have g1n : decide (k < n) = true := decide_eq_true hlt
      obtain ⟨ba, oa, rfl, _, hca⟩ := (HRO.out.below (show Below w0.heap.size w0 wr by rw [← HH.out]; exact HI.out.under)).at_ (k := k) hlt
      obtain ⟨x, hx⟩ : ∃ x, x = o.getD k 0 := ⟨_, rfl⟩
      have hxr := HOR.out k hlt
      rw [← hx] at hca hxr
      obtain ⟨j, hj⟩ : ∃ j : Nat, j = x.toNat := ⟨_, rfl⟩
      have hxj : x = (j : Int) := by omega
      have hjn : j < n := by omega
      rw [hxj] at hca
      have hx2 : o.getD k 0 = (j : Int) := by rw [← hx]; exact hxj
      have HMET2 := Lib.hid (HMET.out.succ (by rw [HL.out]; exact hlt) j hx2 hjn)
      have hcf := (HCB.out.cell j).trans (HMET.out.free HOD.out (by rw [HL.out]; exact hlt) j hx2 hjn)
      have hcz := HCB.out.frozen j
      obtain ⟨d0, d1, d2, hd0, hd1, HH0, -⟩ := HI.out
      have q3 : wr.cell? ⟨H, 0, none⟩ = some (.int .i64 n) := HH0.cell 0
      have g2' : decide ((0 : Int) ≤ (j : Int)) = true := decide_eq_true (by omega)
      have g3' : decide ((j : Int) < (n : Int)) = true := decide_eq_true (by omega)
      have g3n : decide (j < n) = true := decide_eq_true hjn
      clear hx hj hxj hxr hx2 HH0 hd0 hd1
      go_wp2_with fail
      refine (rcneed_ok 1 wr).mono ?_
      rintro e W6 ⟨rfl, rfl⟩
      go_wp2_with fail
      go_roundw
      case rel => exact ⟨k + 1, _, by omega, by go_num, HMET2.out, HCB.out.set j _, HI.out.kept (fun i hi => heap_setCell_other _ ⟨gm, j, none⟩ i _ (by show i ≠ gm; omega)) ((Below.refl _ _).setCell (p := ⟨gm, j, none⟩) (by show H ≤ gm; omega) _)⟩
      case measure => simp [intOf]; omega
    · obtain ⟨m, hm⟩ : ∃ m, m = k := ⟨_, rfl⟩
      rw [← hm] at hk hge
      have HM := Lib.hid hm
      have hmn : m = n := by omega
      have g1' : decide ((k : Int) < (n : Int)) = false := by simp; omega
      have g1n : decide (k < n) = false := by simp; omega
      clear hm HMET HCB HOD
      go_wp2_with fail
      refine (rcsheets_any Ao Aa n co n ca wr).mono ?_
      rintro e W6 ⟨g1, g2, g3, b, t1, t2, t3, rfl, hb1, hb2, hb3, hbm, ⟨z1, z2, z3, z4⟩, hb6⟩
      have hI6 := HI.out.below hb6 HI.out.g9lt.1 HI.out.g9lt.2
      have hb06 : Below w0.heap.size w0 W6 := by rw [← HH.out]; exact hI6.under
      have hz9 := HI.out.g9lt
      have hz6 := hb6.size
      have hro := (HRO.out.below hb06).more hb06.size
      have hra := (HRA.out.below hb06).more hb06.size
      have hEo : ∀ p, Ao = some p → ¬ (p.block = H ∨ p.block = H + 2) := fun p e => by
        obtain ⟨b, off, e2, hb, -⟩ := HRO.out hn1
        rw [e] at e2
        obtain rfl := Option.some.inj e2
        have := HH.out
        show ¬ (b = H ∨ b = H + 2)
        omega
      have hEa : ∀ p, Aa = some p → ¬ (p.block = H ∨ p.block = H + 2) := fun p e => by
        obtain ⟨b, off, e2, hb, -⟩ := HRA.out hn1
        rw [e] at e2
        obtain rfl := Option.some.inj e2
        have := HH.out
        show ¬ (b = H ∨ b = H + 2)
        omega
      have HSEQ := Lib.hid (rcsheets1_stops 4 g1 g2 g3 b t1 t2 t3 Ao Aa n co n ca o ag (by omega) HOR.out (fun i => i = H ∨ i = H + 2) W6 (fun i hi => by omega) (by omega) (by omega) (by omega) hEo hEa hb1 hb2 hb3 hbm hro hra)
      have HI6 := Lib.hid hI6
      have hbz : b < W6.heap.size := (Array.getElem?_eq_some_iff.1 hbm).1
      have hz96 := hI6.g9lt
      have HBM := Lib.hid hbm
      clear hb1 hb2 hb3 hbm z1 z2 z3 hro hra hEo hEa hI6 hb06 hb6
      go_wp2_with fail
      refine (wpIn_wide (n := 5)).1 ?_
      refine gen_act fun a0 ha0 => ?_
      have HA0 := Lib.hid ha0
      refine wpIn_rangeB rfl (by omega) (gf := 74) (lb := #[.pointer (some ⟨g1, 0, none⟩), .pointer (some ⟨g2, 0, none⟩), .pointer (some ⟨g3, 0, none⟩)]) (by rw [HA0.out]; rfl) trivial (enters_of Tryz.func74 (by kernel_rfl) rfl)
        HSEQ.out (fun h k => KeptM.trans h k) (fun W l o o' h1 ho hc hw => ⟨KeptX.putObj W l o o' ho hc, fun o2 h2 => (World.putObj_heap_other (by omega)).trans h2⟩) (Below.refl _ _) (fun _ => rfl)
        (RunI H n v A3 n3 c3 A4 n4 c4 nd g9 o ag w0) (fun c _ => RunX H n v A3 n3 c3 A4 n4 c4 nd o ag w0 (.exit 2) c) ?hI ?hIx (fun _ _ _ => trivial) HI6.out
        (fun pre x a' W => ∃ g13, a' = { tmps := (a0.tmps.setIfInBounds 54 (lookV x)).setIfInBounds 13 (.pointer (some ⟨g13, 0, none⟩)), defers := [] } ∧ Blk W g13 99 #[.func (.func (if x then 97 else 96)) #[] #[]] ∧ x = agAt o ag pre.length) ?hAx ?assign ?body ?done ?stop
      case hI => exact fun s A B h hb => h.below hb (by omega) (by omega)
      case hIx =>
        rintro c s A B ⟨a1, s1, k1, h1, h2, b0, b1, b2, b3, h3⟩ hb
        exact ⟨a1, s1, k1, h1, h2, b0.below hb (by omega), b1.below hb (by omega), b2.below hb (by omega), b3.below hb (by omega), h3.trans (hb.mono (by omega))⟩
      case hAx =>
        rintro pre x a' s X Y row ⟨g13, j1, j2, j3⟩ hg hr
        have hr' : ∀ r, row = some r → ∃ o : Obj, X.heap[r]? = some o ∧ o.isCells = false := fun r e => by
          rcases hr r e with ⟨_, o, ho, hk⟩ | h
          · exact ⟨o, ho, by simpa [noCells] using hk⟩
          · cases h
        exact ⟨g13, j1, blk_kept j2 hg hr', j3⟩
      case assign =>
        rintro lp pre x W K hIW ⟨hx1, hx2⟩ hK
        rw [HA0.out]
        have HX2 := Lib.hid hx2
        clear hx1 hx2
        cases x
        all_goals
          simp only [shEnc, lookV, Bool.false_eq_true, if_false, if_true, fold2, List.setIfInBounds_toArray, List.set_cons_zero, List.set_cons_succ]
          refine wpIn_region_list_of (L := [_, _]) (by kernel_rfl) ?_ ?_
          · intro ho
            obtain ⟨_, _, h⟩ := ho
            exact h
          go_wp2_with fail
          have hk5 : ∀ lk, Below W.heap.size W (W.alloc (.cells #[lk] 99)) := fun lk => (Below.refl _ W).alloc (Nat.le_refl _) _
          refine hK _ _ ((keeps_of_below (hk5 _)).from _) (KeptM.of_below (hk5 _)) (hIW.below (hk5 _) hIW.g9lt.1 hIW.g9lt.2) ⟨W.heap.size, ?_, ?_, HX2.out⟩
          · rw [HA0.out]
            rfl
          · exact Blk.new _ _ _
      case body =>
        rintro lp pre x a' W hIW ⟨g13, rfl, hb13, hx⟩ hlen
        rw [HA0.out]
        simp only [List.setIfInBounds_toArray, List.set_cons_zero, List.set_cons_succ]
        have HIW := Lib.hid hIW
        have HXE := Lib.hid hx
        have HB13 := Lib.hid hb13
        have hgz13 : g13 < W.heap.size := hb13.lt
        obtain ⟨a1, s1, k1, hp1, hr1, e0, e1, e2, e3, e4, hbw⟩ := hIW
        have hbd := runB_bound nd pre (startR nd) 0 0
        rw [hr1] at hbd
        simp only at hbd
        have ha100 : a1 ≤ 100 := by omega
        have hk100 : k1 ≤ 100 := by omega
        have HP1 := Lib.hid hp1
        have HR1 := Lib.hid hr1
        have HC := Lib.hid (⟨e0, e1, e2, e3, e4, hbw⟩ : Blk W H 52 (recC n v A3 n3 c3 A4 n4 c4 a1 s1) ∧ Blk W (H + 1) 52 (recC 0 0 none 0 0 none 0 0 0 0) ∧ Blk W (H + 2) 3 #[.int .i64 k1] ∧ Blk W (H + 3) 32 #[.int .i64 0] ∧ Blk W g9 3 #[.int .i64 nd] ∧ Below H w0 W)
        have q7 : W.cell? ⟨H, 7, none⟩ = some (.int .i64 s1) := e0.cell 7
        have q9 : W.cell? ⟨g9, 0, none⟩ = some (.int .i64 nd) := e4.cell 0
        have q13 : W.cell? ⟨g13, 0, none⟩ = some (.func (.func (if x then 97 else 96)) #[] #[]) := hb13.cell 0
        have hzW : H + 4 ≤ W.heap.size := e3.lt
        clear hb13 hx hp1 hr1 e0 e1 e2 e3 e4 hbw hbd
        by_cases hs : s1 = 0
        · subst hs
          cases x
          · simp only [Bool.false_eq_true, if_false] at q13 HB13 ⊢
            gi_wp2_with fail
            refine ⟨trivial, CallsIn.inRound _ (callsIn_wide.2 ((looks1_ok H _ n v A3 A4 n3 c3 n4 c4 a1 0 nd W HC.out.1).mono ?_))⟩
            rintro e W5 ⟨rfl, hD5, hO5, hz5⟩
            have u2 : Blk W5 (H + 2) 3 #[.int .i64 k1] := (hO5.block _ HC.out.2.2.1.lt (fun e => by have := Option.some.inj e; omega)).trans HC.out.2.2.1
            have hH5 : Only W5 (W5.setCell ⟨H + 2, 0, none⟩ (.int .i64 ((k1 : Int) + 1))) (H + 2) := (Only.refl W5 (H + 2)).set (p := ⟨H + 2, 0, none⟩) (.inl rfl) _
            have u2' : Blk (W5.setCell ⟨H + 2, 0, none⟩ (.int .i64 ((k1 : Int) + 1))) (H + 2) 3 #[.int .i64 ((k1 : Int) + 1)] := u2.set 0 _
            have r7 : W5.cell? ⟨H + 1 + 1, 0, none⟩ = some (.int .i64 k1) := u2.cell 0
            have z7 : W5.frozen? ⟨H + 1 + 1, 0, none⟩ = false := u2.frozen 0
            have HFIN := Lib.hid (show KeepsFrom W6.heap.size W (W5.setCell ⟨H + 2, 0, none⟩ (.int .i64 ((k1 : Int) + 1))) ∧ KeptM (fun i => i = H ∨ i = H + 2) b W (W5.setCell ⟨H + 2, 0, none⟩ (.int .i64 ((k1 : Int) + 1))) ∧ RunI H n v A3 n3 c3 A4 n4 c4 nd g9 o ag w0 (pre ++ [false]) (W5.setCell ⟨H + 2, 0, none⟩ (.int .i64 ((k1 : Int) + 1))) by
              obtain ⟨e0, e1, e2, e3, e4, hbw⟩ := HC.out
              have hob : ∀ i, i < W.heap.size → i ≠ H → i ≠ H + 2 → (W5.setCell ⟨H + 2, 0, none⟩ (.int .i64 ((k1 : Int) + 1))).heap[i]? = W.heap[i]? := fun i hi h1 h2 =>
                (hH5.block i (by omega) (fun e => by have := Option.some.inj e; omega)).trans (hO5.block i hi (fun e => by have := Option.some.inj e; omega))
              refine ⟨((keeps_of_only hO5 e0).trans (keeps_of_only hH5 u2)).from _, ⟨(keptX_only hO5 (.inl rfl)).trans (keptX_only hH5 (.inr rfl)), fun o2 h2 => ?_⟩, ?_⟩
              · have hbl : b < W.heap.size := (Array.getElem?_eq_some_iff.1 h2).1
                exact (hob b hbl (by omega) (by omega)).trans h2
              · refine ⟨a1, 2, k1 + 1, ?_, ?_, (hH5.block _ hD5.lt (fun e => by have := Option.some.inj e; omega)).trans hD5, (hob _ e1.lt (by omega) (by omega)).trans e1, u2', (hob _ e3.lt (by omega) (by omega)).trans e3, (hob _ e4.lt (by omega) (by omega)).trans e4, ?_⟩
                · rw [List.length_append, List.length_singleton, preOf_succ, ← HP1.out, ← HXE.out]
                · rw [runB_step nd pre false _ _ _ _ _ HR1.out]
                  simp
                · exact (hbw.trans (hO5.toBelow (by omega) (by omega))).trans (hH5.toBelow (by omega) (by omega)))
            clear hH5 u2 u2' hD5 hO5
            gi_wp2_with fail
            exact HFIN.out
          · simp only [if_true] at q13 HB13 ⊢
            gi_wp2_with fail
            refine ⟨trivial, CallsIn.inRound _ (callsIn_wide.2 ((looks2_ok H _ n v A3 A4 n3 c3 n4 c4 a1 0 ha100 nd W HC.out.1).mono ?_))⟩
            rintro e W5 ⟨rfl, hD5, hO5, hz5⟩
            have u2 : Blk W5 (H + 2) 3 #[.int .i64 k1] := (hO5.block _ HC.out.2.2.1.lt (fun e => by have := Option.some.inj e; omega)).trans HC.out.2.2.1
            have hH5 : Only W5 (W5.setCell ⟨H + 2, 0, none⟩ (.int .i64 ((k1 : Int) + 1))) (H + 2) := (Only.refl W5 (H + 2)).set (p := ⟨H + 2, 0, none⟩) (.inl rfl) _
            have u2' : Blk (W5.setCell ⟨H + 2, 0, none⟩ (.int .i64 ((k1 : Int) + 1))) (H + 2) 3 #[.int .i64 ((k1 : Int) + 1)] := u2.set 0 _
            have r7 : W5.cell? ⟨H + 1 + 1, 0, none⟩ = some (.int .i64 k1) := u2.cell 0
            have z7 : W5.frozen? ⟨H + 1 + 1, 0, none⟩ = false := u2.frozen 0
            have HFIN := Lib.hid (show KeepsFrom W6.heap.size W (W5.setCell ⟨H + 2, 0, none⟩ (.int .i64 ((k1 : Int) + 1))) ∧ KeptM (fun i => i = H ∨ i = H + 2) b W (W5.setCell ⟨H + 2, 0, none⟩ (.int .i64 ((k1 : Int) + 1))) ∧ RunI H n v A3 n3 c3 A4 n4 c4 nd g9 o ag w0 (pre ++ [true]) (W5.setCell ⟨H + 2, 0, none⟩ (.int .i64 ((k1 : Int) + 1))) by
              obtain ⟨e0, e1, e2, e3, e4, hbw⟩ := HC.out
              have hob : ∀ i, i < W.heap.size → i ≠ H → i ≠ H + 2 → (W5.setCell ⟨H + 2, 0, none⟩ (.int .i64 ((k1 : Int) + 1))).heap[i]? = W.heap[i]? := fun i hi h1 h2 =>
                (hH5.block i (by omega) (fun e => by have := Option.some.inj e; omega)).trans (hO5.block i hi (fun e => by have := Option.some.inj e; omega))
              refine ⟨((keeps_of_only hO5 e0).trans (keeps_of_only hH5 u2)).from _, ⟨(keptX_only hO5 (.inl rfl)).trans (keptX_only hH5 (.inr rfl)), fun o2 h2 => ?_⟩, ?_⟩
              · have hbl : b < W.heap.size := (Array.getElem?_eq_some_iff.1 h2).1
                exact (hob b hbl (by omega) (by omega)).trans h2
              · refine ⟨a1 + 1, (if a1 + 1 = nd then 1 else 0), k1 + 1, ?_, ?_, (hH5.block _ hD5.lt (fun e => by have := Option.some.inj e; omega)).trans hD5, (hob _ e1.lt (by omega) (by omega)).trans e1, u2', (hob _ e3.lt (by omega) (by omega)).trans e3, (hob _ e4.lt (by omega) (by omega)).trans e4, ?_⟩
                · rw [List.length_append, List.length_singleton, preOf_succ, ← HP1.out, ← HXE.out]
                · rw [runB_step nd pre true _ _ _ _ _ HR1.out]
                  simp
                · exact (hbw.trans (hO5.toBelow (by omega) (by omega))).trans (hH5.toBelow (by omega) (by omega)))
            clear hH5 u2 u2' hD5 hO5
            gi_wp2_with fail
            exact HFIN.out
        · have g5 : ((s1 : Int) != 0) = true := bne_iff_ne.2 (by omega)
          have g5n : (s1 != 0) = true := bne_iff_ne.2 hs
          have HS1 := Lib.hid hs
          clear hs
          gi_wp2_with fail
          obtain ⟨e0, e1, e2, e3, e4, hbw⟩ := HC.out
          refine ⟨KeepsFrom.refl _ _, a1, s1, k1, rfl, ?_, e0, e1, e2, e3, hbw⟩
          exact runO_over nd o ag pre.length s1 a1 k1 (by have := HL.out; omega) (by rw [← HP1.out]; exact HR1.out) HS1.out
      case done =>
        rintro D xs W hD hxl ⟨a1, s1, k1, hp1, hr1, e0, e1, e2, e3, e4, hbw⟩ hK
        rw [hp1, hxl, ← HL.out, runO_all] at hr1
        clear hp1 e4
        rw [HRES.out] at hr1
        simp only [Prod.mk.injEq] at hr1
        obtain ⟨rfl, rfl, rfl⟩ := hr1
        rw [HA0.out]
        have HH0 := Lib.hid hbw
        have HK := Lib.hid hK
        clear hbw hK
        go_wp2_with fail
        refine wp_only ?_
        refine wp_region_held_drew (S := fun W' => Blk W' H 52 (recC n v A3 n3 c3 A4 n4 c4 a s) ∧ Blk W' (H + 2) 3 #[.int .i64 kk]) (by kernel_rfl) ⟨e0.drew, e2.drew⟩ (fun hS => ?_)
        have HBW := Lib.hid (show Below H w0 W.drew from HH0.out.drew)
        have HKW := Lib.hid (show W.drew.heap[D]? = some (.deferred (some [])) from HK.out)
        have e1 := e1.drew
        have e3 := e3.drew
        clear e0 e2 HH0 HK
        generalize W.drew = V at hS HBW HKW e1 e3 ⊢
        refine wpAnyH_take (i := 0) (v := .agg (recC n v A3 n3 c3 A4 n4 c4 a s)) rfl (by kernel_rfl) (by kernel_rfl) (by kernel_rfl) (fun _ _ _ h => h) (Or.inl ⟨by rfl, fun W' hS' => by have q0 : W'.cell? ⟨H, 0, none⟩ = some (.int .i64 n) := hS'.1.cell 0; have q1 : W'.cell? ⟨H, 1, none⟩ = some (.int .i64 v) := hS'.1.cell 1; have q2 : W'.cell? ⟨H, 2, none⟩ = some (.bool false) := hS'.1.cell 2; have q3 : W'.cell? ⟨H, 3, none⟩ = some (.slice A3 n3 c3) := hS'.1.cell 3; have q4 : W'.cell? ⟨H, 4, none⟩ = some (.bool false) := hS'.1.cell 4; have q5 : W'.cell? ⟨H, 5, none⟩ = some (.slice A4 n4 c4) := hS'.1.cell 5; have q6 : W'.cell? ⟨H, 6, none⟩ = some (.int .i64 a) := hS'.1.cell 6; have q7 : W'.cell? ⟨H, 7, none⟩ = some (.int .i64 s) := hS'.1.cell 7; go_simp⟩) hS ?_
        simp only [Act.put, List.getElem_toArray, List.getElem_cons_zero, List.getElem_cons_succ, List.setIfInBounds_toArray, List.set_cons_zero, List.set_cons_succ]
        refine wpAnyH_take (i := 1) (v := .int .i64 kk) rfl (by kernel_rfl) (by kernel_rfl) (by kernel_rfl) (fun _ _ _ h => h) (Or.inl ⟨by rfl, fun W' hS' => by have q0 : W'.cell? ⟨H + 1 + 1, 0, none⟩ = some (.int .i64 kk) := hS'.2.cell 0; go_simp⟩) hS ?_
        simp only [Act.put, List.getElem_toArray, List.getElem_cons_zero, List.getElem_cons_succ, List.setIfInBounds_toArray, List.set_cons_zero, List.set_cons_succ]
        refine wpAnyH_ready (rs := [2]) (by kernel_rfl) (by simp) ?_
        refine AllReadyH.cons rfl (fun Kq hKq => ?_) AllReadyH.nil
        simp only [List.getElem_toArray, List.getElem_cons_zero, List.getElem_cons_succ]
        rw [if_pos (by rfl)]
        refine wp_store_rec _ _ rfl e1 n v A3 A4 n3 c3 n4 c4 a s rfl rfl rfl ?_
        intro W3 hD3 hO3 hz3
        have hH2 : H + 3 < V.heap.size := e3.lt
        have hS3 : Blk W3 H 52 (recC n v A3 n3 c3 A4 n4 c4 a s) ∧ Blk W3 (H + 2) 3 #[.int .i64 kk] := ⟨(hO3.block _ hS.1.lt (fun e => by have := Option.some.inj e; omega)).trans hS.1, (hO3.block _ hS.2.lt (fun e => by have := Option.some.inj e; omega)).trans hS.2⟩
        have e3 : Blk W3 (H + 3) 32 #[.int .i64 0] := (hO3.block _ e3.lt (fun e => by have := Option.some.inj e; omega)).trans e3
        have HBW := Lib.hid (show Below H w0 W3 from HBW.out.trans (hO3.toBelow (by omega) (by omega)))
        have HKW := Lib.hid ((keeps_of_only hO3 e1).same _ _ HKW.out rfl)
        refine hKq.out _ _ hS3 (fun _ => ?_)
        clear hKq Kq hS e1 hO3
        have y7 : W3.cell? ⟨H + 1 + 1, 0, none⟩ = some (.int .i64 kk) := hS3.2.cell 0
        have z7 : W3.frozen? ⟨H + 1 + 1, 0, none⟩ = false := hS3.2.frozen 0
        refine wpAnyH_ready (rs := [3]) (by kernel_rfl) (by simp) ?_
        refine AllReadyH.cons rfl (fun Kq hKq => ?_) AllReadyH.nil
        simp only [List.getElem_toArray, List.getElem_cons_zero, List.getElem_cons_succ]
        go_simp
        have hS4 : Blk (W3.setCell ⟨H + 2, 0, none⟩ (.int .i64 kk)) H 52 (recC n v A3 n3 c3 A4 n4 c4 a s) ∧ Blk (W3.setCell ⟨H + 2, 0, none⟩ (.int .i64 kk)) (H + 2) 3 #[.int .i64 kk] := ⟨hS3.1.far (p := ⟨H + 2, 0, none⟩) (by show H ≠ H + 2; omega) _, hS3.2.set 0 _⟩
        have e3 : Blk (W3.setCell ⟨H + 2, 0, none⟩ (.int .i64 kk)) (H + 3) 32 #[.int .i64 0] := e3.far (p := ⟨H + 2, 0, none⟩) (by show H + 3 ≠ H + 2; omega) _
        have hD3 : Blk (W3.setCell ⟨H + 2, 0, none⟩ (.int .i64 kk)) (H + 1) 52 (recC n v A3 n3 c3 A4 n4 c4 a s) := hD3.far (p := ⟨H + 2, 0, none⟩) (by show H + 1 ≠ H + 2; omega) _
        have HBW := Lib.hid (HBW.out.setCell (p := ⟨H + 2, 0, none⟩) (by show H ≤ H + 2; omega) (.int .i64 kk))
        have HKW := Lib.hid ((KeepsOthers.setCell W3 ⟨H + 2, 0, none⟩ (.int .i64 kk)).same _ _ HKW.out rfl)
        refine hKq.out _ _ hS4 (fun _ => ?_)
        clear hKq Kq hS3 y7 z7
        generalize (W3.setCell ⟨H + 2, 0, none⟩ (.int .i64 kk)) = W4 at hS4 e3 hD3 HBW HKW ⊢
        have y8 : W4.cell? ⟨H + 1 + 1 + 1, 0, none⟩ = some (.int .i64 0) := e3.cell 0
        have z8 : W4.frozen? ⟨H + 1 + 1 + 1, 0, none⟩ = false := e3.frozen 0
        refine wpAnyH_ready (rs := [4]) (by kernel_rfl) (by simp) ?_
        refine AllReadyH.cons rfl (fun Kq hKq => ?_) AllReadyH.nil
        simp only [List.getElem_toArray, List.getElem_cons_zero, List.getElem_cons_succ]
        go_simp
        have hS5 : Blk (W4.setCell ⟨H + 3, 0, none⟩ (.int .i64 0)) H 52 (recC n v A3 n3 c3 A4 n4 c4 a s) ∧ Blk (W4.setCell ⟨H + 3, 0, none⟩ (.int .i64 0)) (H + 2) 3 #[.int .i64 kk] := ⟨hS4.1.far (p := ⟨H + 3, 0, none⟩) (by show H ≠ H + 3; omega) _, hS4.2.far (p := ⟨H + 3, 0, none⟩) (by show H + 2 ≠ H + 3; omega) _⟩
        have e5 : Blk (W4.setCell ⟨H + 3, 0, none⟩ (.int .i64 0)) (H + 3) 32 #[.int .i64 0] := e3.set 0 _
        have hD5 : Blk (W4.setCell ⟨H + 3, 0, none⟩ (.int .i64 0)) (H + 1) 52 (recC n v A3 n3 c3 A4 n4 c4 a s) := hD3.far (p := ⟨H + 3, 0, none⟩) (by show H + 1 ≠ H + 3; omega) _
        have HBW := Lib.hid (HBW.out.setCell (p := ⟨H + 3, 0, none⟩) (by show H ≤ H + 3; omega) (.int .i64 0))
        have hKW := (KeepsOthers.setCell W4 ⟨H + 3, 0, none⟩ (.int .i64 0)).same _ _ HKW.out rfl
        refine hKq.out _ _ hS5 (fun _ => ?_)
        clear hKq Kq hS4 y8 z8 e3 hD3 HKW
        generalize (W4.setCell ⟨H + 3, 0, none⟩ (.int .i64 0)) = W9 at hS5 e5 hD5 HBW hKW ⊢
        refine wpAnyH_done (by kernel_rfl) ?_ _
        simp only [onlyNormal]
        have HKW := Lib.hid hKW
        clear hKW
        go_wp2_with fail
        refine ⟨by simp, .inl ⟨_, _, rfl, run_takeDeferred HKW.out, ?_⟩⟩
        refine ⟨by simp, .inr ⟨(fun h => by cases h), .func 41, #[], 41, #[.pointer (some ⟨H + 1 + 1 + 1, 0, none⟩)], rfl, by simp [invoke, go_sem], fun _ _ => trivial, (rccaught_in _ ⟨H + 1 + 1 + 1, 0, none⟩ _).mono ?_⟩⟩
        rintro e u' w'' ⟨rfl, rfl, rfl⟩
        simp only [LeavesInM, LeavesIn, settle]
        have hg := grownBy_putObj' W9 D (.deferred none)
        have hr : ∀ r, some D = some r → ∃ o : Obj, W9.heap[r]? = some o ∧ o.isCells = false := fun r e => by cases e; exact ⟨_, HKW.out, rfl⟩
        have q0 : (W9.putObj D (.deferred none)).cell? ⟨H + 1, 0, none⟩ = some (.int .i64 n) := cell_kept (hD5.cell 0) hg hr
        have q1 : (W9.putObj D (.deferred none)).cell? ⟨H + 1, 1, none⟩ = some (.int .i64 v) := cell_kept (hD5.cell 1) hg hr
        have q2 : (W9.putObj D (.deferred none)).cell? ⟨H + 1, 2, none⟩ = some (.bool false) := cell_kept (hD5.cell 2) hg hr
        have q3 : (W9.putObj D (.deferred none)).cell? ⟨H + 1, 3, none⟩ = some (.slice A3 n3 c3) := cell_kept (hD5.cell 3) hg hr
        have q4 : (W9.putObj D (.deferred none)).cell? ⟨H + 1, 4, none⟩ = some (.bool false) := cell_kept (hD5.cell 4) hg hr
        have q5 : (W9.putObj D (.deferred none)).cell? ⟨H + 1, 5, none⟩ = some (.slice A4 n4 c4) := cell_kept (hD5.cell 5) hg hr
        have q6 : (W9.putObj D (.deferred none)).cell? ⟨H + 1, 6, none⟩ = some (.int .i64 a) := cell_kept (hD5.cell 6) hg hr
        have q7 : (W9.putObj D (.deferred none)).cell? ⟨H + 1, 7, none⟩ = some (.int .i64 s) := cell_kept (hD5.cell 7) hg hr
        have r0 : (W9.putObj D (.deferred none)).cell? ⟨H + 1 + 1, 0, none⟩ = some (.int .i64 kk) := cell_kept (hS5.2.cell 0) hg hr
        have r1 : (W9.putObj D (.deferred none)).cell? ⟨H + 1 + 1 + 1, 0, none⟩ = some (.int .i64 0) := cell_kept (e5.cell 0) hg hr
        refine ⟨.tuple #[.agg (recC n v A3 n3 c3 A4 n4 c4 a s), .int .i64 kk, .int .i64 0], ?_, rfl, ?_⟩
        · simp [results, Tryz.f16, go_sem, q0, q1, q2, q3, q4, q5, q6, q7, r0, r1, Result.andThen]
        · rw [← HH.out]
          exact HBW.out.trans (belowK_b (w := W6) (by omega) W9 D _ _ hD HKW.out rfl rfl)
      case stop =>
        rintro D c pre W hD - ⟨a1, s1, k1, rfl, hr1, e0, e1, e2, e3, hbw⟩ hK
        rw [HRES.out] at hr1
        simp only [Prod.mk.injEq] at hr1
        obtain ⟨rfl, rfl, rfl⟩ := hr1
        rw [HA0.out]
        have HH0 := Lib.hid hbw
        have HK := Lib.hid hK
        clear hbw hK
        refine wpIn_wide.2 ?_
        go_wp2_with fail
        refine wp_only ?_
        refine wp_region_held_drew (S := fun W' => Blk W' H 52 (recC n v A3 n3 c3 A4 n4 c4 a s) ∧ Blk W' (H + 2) 3 #[.int .i64 kk]) (by kernel_rfl) ⟨e0.drew, e2.drew⟩ (fun hS => ?_)
        have HBW := Lib.hid (show Below H w0 W.drew from HH0.out.drew)
        have HKW := Lib.hid (show W.drew.heap[D]? = some (.deferred (some [])) from HK.out)
        have e1 := e1.drew
        have e3 := e3.drew
        clear e0 e2 HH0 HK
        generalize W.drew = V at hS HBW HKW e1 e3 ⊢
        refine wpAnyH_take (i := 0) (v := .agg (recC n v A3 n3 c3 A4 n4 c4 a s)) rfl (by kernel_rfl) (by kernel_rfl) (by kernel_rfl) (fun _ _ _ h => h) (Or.inl ⟨by rfl, fun W' hS' => by have q0 : W'.cell? ⟨H, 0, none⟩ = some (.int .i64 n) := hS'.1.cell 0; have q1 : W'.cell? ⟨H, 1, none⟩ = some (.int .i64 v) := hS'.1.cell 1; have q2 : W'.cell? ⟨H, 2, none⟩ = some (.bool false) := hS'.1.cell 2; have q3 : W'.cell? ⟨H, 3, none⟩ = some (.slice A3 n3 c3) := hS'.1.cell 3; have q4 : W'.cell? ⟨H, 4, none⟩ = some (.bool false) := hS'.1.cell 4; have q5 : W'.cell? ⟨H, 5, none⟩ = some (.slice A4 n4 c4) := hS'.1.cell 5; have q6 : W'.cell? ⟨H, 6, none⟩ = some (.int .i64 a) := hS'.1.cell 6; have q7 : W'.cell? ⟨H, 7, none⟩ = some (.int .i64 s) := hS'.1.cell 7; go_simp⟩) hS ?_
        simp only [Act.put, List.getElem_toArray, List.getElem_cons_zero, List.getElem_cons_succ, List.setIfInBounds_toArray, List.set_cons_zero, List.set_cons_succ]
        refine wpAnyH_take (i := 1) (v := .int .i64 kk) rfl (by kernel_rfl) (by kernel_rfl) (by kernel_rfl) (fun _ _ _ h => h) (Or.inl ⟨by rfl, fun W' hS' => by have q0 : W'.cell? ⟨H + 1 + 1, 0, none⟩ = some (.int .i64 kk) := hS'.2.cell 0; go_simp⟩) hS ?_
        simp only [Act.put, List.getElem_toArray, List.getElem_cons_zero, List.getElem_cons_succ, List.setIfInBounds_toArray, List.set_cons_zero, List.set_cons_succ]
        refine wpAnyH_ready (rs := [2]) (by kernel_rfl) (by simp) ?_
        refine AllReadyH.cons rfl (fun Kq hKq => ?_) AllReadyH.nil
        simp only [List.getElem_toArray, List.getElem_cons_zero, List.getElem_cons_succ]
        rw [if_pos (by rfl)]
        refine wp_store_rec _ _ rfl e1 n v A3 A4 n3 c3 n4 c4 a s rfl rfl rfl ?_
        intro W3 hD3 hO3 hz3
        have hH2 : H + 3 < V.heap.size := e3.lt
        have hS3 : Blk W3 H 52 (recC n v A3 n3 c3 A4 n4 c4 a s) ∧ Blk W3 (H + 2) 3 #[.int .i64 kk] := ⟨(hO3.block _ hS.1.lt (fun e => by have := Option.some.inj e; omega)).trans hS.1, (hO3.block _ hS.2.lt (fun e => by have := Option.some.inj e; omega)).trans hS.2⟩
        have e3 : Blk W3 (H + 3) 32 #[.int .i64 0] := (hO3.block _ e3.lt (fun e => by have := Option.some.inj e; omega)).trans e3
        have HBW := Lib.hid (show Below H w0 W3 from HBW.out.trans (hO3.toBelow (by omega) (by omega)))
        have HKW := Lib.hid ((keeps_of_only hO3 e1).same _ _ HKW.out rfl)
        refine hKq.out _ _ hS3 (fun _ => ?_)
        clear hKq Kq hS e1 hO3
        have y7 : W3.cell? ⟨H + 1 + 1, 0, none⟩ = some (.int .i64 kk) := hS3.2.cell 0
        have z7 : W3.frozen? ⟨H + 1 + 1, 0, none⟩ = false := hS3.2.frozen 0
        refine wpAnyH_ready (rs := [3]) (by kernel_rfl) (by simp) ?_
        refine AllReadyH.cons rfl (fun Kq hKq => ?_) AllReadyH.nil
        simp only [List.getElem_toArray, List.getElem_cons_zero, List.getElem_cons_succ]
        go_simp
        have hS4 : Blk (W3.setCell ⟨H + 2, 0, none⟩ (.int .i64 kk)) H 52 (recC n v A3 n3 c3 A4 n4 c4 a s) ∧ Blk (W3.setCell ⟨H + 2, 0, none⟩ (.int .i64 kk)) (H + 2) 3 #[.int .i64 kk] := ⟨hS3.1.far (p := ⟨H + 2, 0, none⟩) (by show H ≠ H + 2; omega) _, hS3.2.set 0 _⟩
        have e3 : Blk (W3.setCell ⟨H + 2, 0, none⟩ (.int .i64 kk)) (H + 3) 32 #[.int .i64 0] := e3.far (p := ⟨H + 2, 0, none⟩) (by show H + 3 ≠ H + 2; omega) _
        have hD3 : Blk (W3.setCell ⟨H + 2, 0, none⟩ (.int .i64 kk)) (H + 1) 52 (recC n v A3 n3 c3 A4 n4 c4 a s) := hD3.far (p := ⟨H + 2, 0, none⟩) (by show H + 1 ≠ H + 2; omega) _
        have HBW := Lib.hid (HBW.out.setCell (p := ⟨H + 2, 0, none⟩) (by show H ≤ H + 2; omega) (.int .i64 kk))
        have HKW := Lib.hid ((KeepsOthers.setCell W3 ⟨H + 2, 0, none⟩ (.int .i64 kk)).same _ _ HKW.out rfl)
        refine hKq.out _ _ hS4 (fun _ => ?_)
        clear hKq Kq hS3 y7 z7
        generalize (W3.setCell ⟨H + 2, 0, none⟩ (.int .i64 kk)) = W4 at hS4 e3 hD3 HBW HKW ⊢
        have y8 : W4.cell? ⟨H + 1 + 1 + 1, 0, none⟩ = some (.int .i64 0) := e3.cell 0
        have z8 : W4.frozen? ⟨H + 1 + 1 + 1, 0, none⟩ = false := e3.frozen 0
        refine wpAnyH_ready (rs := [4]) (by kernel_rfl) (by simp) ?_
        refine AllReadyH.cons rfl (fun Kq hKq => ?_) AllReadyH.nil
        simp only [List.getElem_toArray, List.getElem_cons_zero, List.getElem_cons_succ]
        go_simp
        have hS5 : Blk (W4.setCell ⟨H + 3, 0, none⟩ (.int .i64 0)) H 52 (recC n v A3 n3 c3 A4 n4 c4 a s) ∧ Blk (W4.setCell ⟨H + 3, 0, none⟩ (.int .i64 0)) (H + 2) 3 #[.int .i64 kk] := ⟨hS4.1.far (p := ⟨H + 3, 0, none⟩) (by show H ≠ H + 3; omega) _, hS4.2.far (p := ⟨H + 3, 0, none⟩) (by show H + 2 ≠ H + 3; omega) _⟩
        have e5 : Blk (W4.setCell ⟨H + 3, 0, none⟩ (.int .i64 0)) (H + 3) 32 #[.int .i64 0] := e3.set 0 _
        have hD5 : Blk (W4.setCell ⟨H + 3, 0, none⟩ (.int .i64 0)) (H + 1) 52 (recC n v A3 n3 c3 A4 n4 c4 a s) := hD3.far (p := ⟨H + 3, 0, none⟩) (by show H + 1 ≠ H + 3; omega) _
        have HBW := Lib.hid (HBW.out.setCell (p := ⟨H + 3, 0, none⟩) (by show H ≤ H + 3; omega) (.int .i64 0))
        have hKW := (KeepsOthers.setCell W4 ⟨H + 3, 0, none⟩ (.int .i64 0)).same _ _ HKW.out rfl
        refine hKq.out _ _ hS5 (fun _ => ?_)
        clear hKq Kq hS4 y8 z8 e3 hD3 HKW
        generalize (W4.setCell ⟨H + 3, 0, none⟩ (.int .i64 0)) = W9 at hS5 e5 hD5 HBW hKW ⊢
        refine wpAnyH_done (by kernel_rfl) ?_ _
        simp only [onlyNormal]
        have HKW := Lib.hid hKW
        clear hKW
        go_wp2_with fail
        refine ⟨by simp, .inl ⟨_, _, rfl, run_takeDeferred HKW.out, ?_⟩⟩
        refine ⟨by simp, .inr ⟨(fun h => by cases h), .func 41, #[], 41, #[.pointer (some ⟨H + 1 + 1 + 1, 0, none⟩)], rfl, by simp [invoke, go_sem], fun _ _ => trivial, (rccaught_in _ ⟨H + 1 + 1 + 1, 0, none⟩ _).mono ?_⟩⟩
        rintro e u' w'' ⟨rfl, rfl, rfl⟩
        simp only [LeavesInM, LeavesIn, settle]
        have hg := grownBy_putObj' W9 D (.deferred none)
        have hr : ∀ r, some D = some r → ∃ o : Obj, W9.heap[r]? = some o ∧ o.isCells = false := fun r e => by cases e; exact ⟨_, HKW.out, rfl⟩
        have q0 : (W9.putObj D (.deferred none)).cell? ⟨H + 1, 0, none⟩ = some (.int .i64 n) := cell_kept (hD5.cell 0) hg hr
        have q1 : (W9.putObj D (.deferred none)).cell? ⟨H + 1, 1, none⟩ = some (.int .i64 v) := cell_kept (hD5.cell 1) hg hr
        have q2 : (W9.putObj D (.deferred none)).cell? ⟨H + 1, 2, none⟩ = some (.bool false) := cell_kept (hD5.cell 2) hg hr
        have q3 : (W9.putObj D (.deferred none)).cell? ⟨H + 1, 3, none⟩ = some (.slice A3 n3 c3) := cell_kept (hD5.cell 3) hg hr
        have q4 : (W9.putObj D (.deferred none)).cell? ⟨H + 1, 4, none⟩ = some (.bool false) := cell_kept (hD5.cell 4) hg hr
        have q5 : (W9.putObj D (.deferred none)).cell? ⟨H + 1, 5, none⟩ = some (.slice A4 n4 c4) := cell_kept (hD5.cell 5) hg hr
        have q6 : (W9.putObj D (.deferred none)).cell? ⟨H + 1, 6, none⟩ = some (.int .i64 a) := cell_kept (hD5.cell 6) hg hr
        have q7 : (W9.putObj D (.deferred none)).cell? ⟨H + 1, 7, none⟩ = some (.int .i64 s) := cell_kept (hD5.cell 7) hg hr
        have r0 : (W9.putObj D (.deferred none)).cell? ⟨H + 1 + 1, 0, none⟩ = some (.int .i64 kk) := cell_kept (hS5.2.cell 0) hg hr
        have r1 : (W9.putObj D (.deferred none)).cell? ⟨H + 1 + 1 + 1, 0, none⟩ = some (.int .i64 0) := cell_kept (e5.cell 0) hg hr
        refine ⟨.tuple #[.agg (recC n v A3 n3 c3 A4 n4 c4 a s), .int .i64 kk, .int .i64 0], ?_, rfl, ?_⟩
        · simp [results, Tryz.f16, go_sem, q0, q1, q2, q3, q4, q5, q6, q7, r0, r1, Result.andThen]
        · rw [← HH.out]
          exact HBW.out.trans (belowK_b (w := W6) (by omega) W9 D _ _ hD HKW.out rfl rfl)
end Go.Proofs.YtkkcbkfpaoldmaaGreatDoor

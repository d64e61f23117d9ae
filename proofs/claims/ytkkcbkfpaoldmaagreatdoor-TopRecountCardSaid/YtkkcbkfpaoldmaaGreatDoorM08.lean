/- Several texts in one: N4, N6. -/
import Derived.Test.YtkkcbkfpaoldmaaGreatDoorN3
import Derived.Defers
import Derived.Recover
import Derived.BigGuardPart
import Derived.Test.YtkkcbkfpaoldmaaGreatDoorM06
/- Walks: nat.caught (where nothing was panicked), Check$1, slices.IndexFunc, ContainsFunc, nat.Check of valid integers. -/
namespace Go.Proofs.YtkkcbkfpaoldmaaGreatDoor
open Go Go.RowKit

set_option maxRecDepth 100000 in
theorem ncaught_idle (p : Addr) (w : World) : CallsD Tryz.prog 79 #[.pointer (some p)] .returning w fun e u' w' => e = .returned (.tuple #[]) ∧ u' = .returning ∧ w' = w := by
  refine callsD_of_wpS Tryz.func79 rfl fun c₀ cs hu => ?_
  apply wpS_seq
  apply wpS_region
  simp [wpOpsS, go_sem, recoverD, hu, Tryz.ntmps79, Exit.thenS]
  apply wpS_seq
  apply wpS_region
  simp [wpOpsS, go_sem, recoverD, hu, Exit.thenS]
  refine wpS_cond (t := false) (by simp [Act.eval, Array.replicate]) ?_
  simp only [Bool.false_eq_true, if_false]
  refine wpS_of_wp (wp_skip ?_)
  cases c₀
  simp_all [bodyPostS, results, Tryz.results79]
set_option maxRecDepth 100000 in
set_option linter.unusedSimpArgs false in
theorem nodd_ok (d : Int) (hd : 0 ≤ d ∧ d < 1073741824) (w : World) : Calls Tryz.prog 83 #[.int .i64 d] w (fun e w' => e = .returned (.bool false) ∧ w = w') := by
  have g1 : decide (d < 0) = false := decide_eq_false (by omega)
  have g2 : decide ((1073741823 : Int) < d) = false := decide_eq_false (by omega)
  go_enter Tryz.func83, Tryz.ntmps83
  go_wp2_with fail
  go_ret
  exact ⟨rfl, rfl⟩
set_option maxRecDepth 100000 in
set_option linter.unusedSimpArgs false in
set_option linter.unusedVariables false in
set_option maxHeartbeats 4000000 in
theorem indexF_none (A : Option Addr) (l : List Int) (n c : Nat) (hn : n = l.length) (hn2 : n ≤ 4611686018427387903) (hd : DigL l) (w : World) (hR : MRd w w.heap.size A l) : Calls Tryz.prog 93 #[.slice A n c, .func (.func 83) #[] #[]] w (Ret (.int .i64 (-1)) w) := by
  have HR := Lib.hid hR
  have HN := Lib.hid hn
  have HD := Lib.hid hd
  clear hR hn hd
  go_enter Tryz.func93, Tryz.ntmps93
  go_wp2_with fail
  go_loopw [8] (fun i wr => ∃ k : Nat, k ≤ n ∧ i = .int .i64 k ∧ Below w.heap.size w wr) (fun i _ => n - (intOf i).toNat)
  case atStart => exact ⟨0, by omega, rfl, Below.refl _ _⟩
  case round =>
    obtain ⟨k, hk, rfl, hB⟩ := hrel
    by_cases hlt : k < n
    · obtain ⟨b, off, rfl, hbl, hcell⟩ := (HR.out.below hB).at_ (k := k) (by rw [← HN.out]; exact hlt)
      have hxr := HD.out.digs (k + 1) k (by omega)
      obtain ⟨x, hx⟩ : ∃ x, x = dg l k := ⟨_, rfl⟩
      rw [← hx] at hcell hxr
      clear hx
      go_wp2_with fail
      refine (nodd_ok x hxr wr).mono ?_
      rintro e w1 ⟨rfl, rfl⟩
      go_wp2_with fail
      go_roundw
      case rel => exact ⟨k + 1, by omega, by go_num, hB⟩
      case measure => simp [intOf]; omega
    · go_wp2_with fail
      go_ret
      exact ⟨rfl, hB⟩
set_option maxRecDepth 100000 in
set_option linter.unusedSimpArgs false in
theorem containsF_none (A : Option Addr) (l : List Int) (n c : Nat) (hn : n = l.length) (hn2 : n ≤ 4611686018427387903) (hd : DigL l) (w : World) (hR : MRd w w.heap.size A l) : Calls Tryz.prog 68 #[.slice A n c, .func (.func 83) #[] #[]] w (Ret (.bool false) w) := by
  have H := Lib.hid (indexF_none A l n c hn hn2 hd w hR)
  clear hR hn hd
  go_enter Tryz.func68, Tryz.ntmps68
  go_wp2_with fail
  refine H.out.mono ?_
  rintro e w1 ⟨rfl, hb1⟩
  go_wp2_with fail
  go_ret
  exact ⟨rfl, hb1⟩
/-- An integer that is valid: its sign and its digits. -/
structure BigOk (w : World) (B : Nat) (neg : Bool) (A : Option Addr) (n c : Nat) (l : List Int) : Prop where
  len : n = l.length
  cap : n ≤ c
  most : c ≤ 9223372036854775807
  nil : A = none → c = 0
  dig : DigL l
  trim : TrimL l
  few : n ≤ 2048
  sign : n = 0 → neg = false
  rd : MRd w B A l
theorem BigOk.below {w w' : World} {B : Nat} {neg : Bool} {A : Option Addr} {n c : Nat} {l : List Int} (h : BigOk w B neg A n c l) (hb : Below B w w') : BigOk w' B neg A n c l := { h with rd := h.rd.below hb }
theorem BigOk.more {w : World} {B B' : Nat} {neg : Bool} {A : Option Addr} {n c : Nat} {l : List Int} (h : BigOk w B neg A n c l) (hb : B ≤ B') : BigOk w B' neg A n c l := { h with rd := h.rd.more hb }
def bigV (neg : Bool) (A : Option Addr) (n c : Nat) : Value := .agg #[.bool neg, .slice A n c]
theorem bigSize : (Tryz.prog.info? 27).map (·.size) = some 2 := by kernel_rfl
set_option maxRecDepth 100000 in
set_option linter.unusedSimpArgs false in
set_option linter.unusedVariables false in
set_option maxHeartbeats 4000000 in
theorem nCheck_ok (neg : Bool) (A : Option Addr) (n c : Nat) (l : List Int) (w : World) (h : BigOk w w.heap.size neg A n c l) : Calls Tryz.prog 53 #[bigV neg A n c] w (Ret (.int .i64 0) w) := by
  have HC := Lib.hid (fun W (hb : Below w.heap.size w W) => containsF_none A l n c h.len (by have := h.few; omega) h.dig W ((h.rd.below hb).more hb.size))
  have g1 : decide ((2048 : Int) < (n : Int)) = false := decide_eq_false (by have := h.few; omega)
  unfold bigV
  rcases Nat.eq_zero_or_pos n with h0 | h0
  · have hs := h.sign h0
    subst hs h0
    clear h
    go_enter Tryz.func53, Tryz.ntmps53
    go_wp2_with fail
    refine (HC.out _ ((Below.refl _ w).alloc (Nat.le_refl _) _)).mono ?_
    rintro e w1 ⟨rfl, hb1⟩
    go_wp2_with fail
    go_ret
    exact ⟨rfl, ((Below.refl _ w).alloc (Nat.le_refl _) _).trans (hb1.mono (by simp))⟩
  · obtain ⟨s, hs⟩ : ∃ s, n = s + 1 := ⟨n - 1, by omega⟩
    have g2 : decide ((0 : Int) < (n : Int)) = true := decide_eq_true (by omega)
    have g3 : ((n : Int) == 0) = false := beq_eq_false_iff_ne.2 (by omega)
    have hs1 : (n : Int) - 1 = (s : Int) := by omega
    have hs2 : wrap64 (s : Int) = (s : Int) := wrap_in _ (by have := h.few; omega)
    have hsn : s < n := by omega
    have hpos : 0 < n := h0
    have g2n : decide (0 < n) = true := decide_eq_true h0
    obtain ⟨b, off, rfl, hbl, hcell⟩ := (h.rd.below ((Below.refl _ w).alloc (Nat.le_refl _) (.cells #[.bool neg, .slice A n c] 27))).at_ (k := s) (by rw [← h.len]; omega)
    have hx0 : dg l s ≠ 0 := by
      have := h.trim (by rw [← h.len]; omega)
      rwa [← h.len, show n - 1 = s by omega] at this
    obtain ⟨x, hx⟩ : ∃ x, x = dg l s := ⟨_, rfl⟩
    rw [← hx] at hcell hx0
    have g4 : (x == 0) = false := beq_eq_false_iff_ne.2 hx0
    clear h hx hx0 hs h0
    go_enter Tryz.func53, Tryz.ntmps53
    go_wp2_with fail
    refine (HC.out _ ((Below.refl _ w).alloc (Nat.le_refl _) _)).mono ?_
    rintro e w1 ⟨rfl, hb1⟩
    go_wp2_with fail
    go_ret
    exact ⟨rfl, ((Below.refl _ w).alloc (Nat.le_refl _) _).trans (hb1.mono (by simp))⟩
end Go.Proofs.YtkkcbkfpaoldmaaGreatDoor

/- Walks: nat.big, Make (of small numbers), check of two valid integers. -/
namespace Go.Proofs.YtkkcbkfpaoldmaaGreatDoor
open Go Go.RowKit

section
variable {ops : Array Oper} {rest : List Oper} {o : Oper} {a : Act} {Q : Exit → Act → World → Prop}
/-- An integer laid into a block that is known. -/
theorem store_big (hgd : o.guard = none) (p y : Operand) (ho : o.op = .store 27 p y) {w : World} {g : Nat} {c : Array Value} {tt : TypeId} (hg : Blk w g tt c) (neg : Bool) (A : Option Addr) (n k : Nat)
    (hx : a.eval p = .pointer (some ⟨g, 0, none⟩)) (hy : a.eval y = .agg #[.bool neg, .slice A n k]) (hold : c.size = 2)
    (h : ∀ w', Blk w' g tt #[.bool neg, .slice A n k] → Only w w' g → w'.heap.size = w.heap.size → wpList Tryz.prog ops Q rest (a.put o.dst undef) w') : wpList Tryz.prog ops Q (o :: rest) a w :=
  wpList_store_row hgd _ p y ho g _ hx hy tt c hg bigSize (by rw [hold]; rfl) (by simp [Value.oneCell'])
    (h _ (setRow_heap w g c _ tt _ hg) ⟨rfl, rfl, rfl, by simp, fun i _ hne => setRow_other w g i _ (fun e => hne (by rw [e]))⟩ (by simp))
/-- An integer loaded. -/
theorem load_big (hgd : o.guard = none) (p : Operand) (ho : o.op = .load 27 p) {w : World} (b off : Nat) (neg : Bool) (A : Option Addr) (n k : Nat) (hr : w.rangeAt b off [.bool neg, .slice A n k]) (hx : a.eval p = .pointer (some ⟨b, off, none⟩))
    (h : wpList Tryz.prog ops Q rest (a.put o.dst (.agg #[.bool neg, .slice A n k])) w) : wpList Tryz.prog ops Q (o :: rest) a w :=
  wpList_load_mid hgd _ p ho b off hx [.bool neg, .slice A n k] _ hr Tryz.underlying27 rfl bigSize h
end
theorem big_range {w : World} {g : Nat} {t : TypeId} {neg : Bool} {A : Option Addr} {n k : Nat} (h : Blk w g t #[.bool neg, .slice A n k]) : w.rangeAt g 0 [.bool neg, .slice A n k] := fun j v hv => by
  rw [Nat.zero_add, h.cell]
  rcases j with _ | _ | j
  · exact hv
  · exact hv
  · cases hv
set_option maxRecDepth 100000 in
set_option linter.unusedSimpArgs false in
set_option linter.unusedVariables false in
set_option maxHeartbeats 4000000 in
theorem nbig_ok (A : Option Addr) (l : List Int) (n c : Nat) (hn : n = l.length) (hc : n ≤ c) (hc2 : c ≤ 9223372036854775807) (hn2 : n ≤ 4611686018427387903) (hm : tlen l n ≤ 2048) (w : World) (hR : MRd w w.heap.size A l) :
    Calls Tryz.prog 85 #[.bool false, .slice A n c] w (Ret (.agg #[.bool false, .slice A (tlen l n) c]) w) := by
  have HT := Lib.hid (fun W (hb : Below w.heap.size w W) => trim_any A l n c hn hc hc2 hn2 W ((hR.below hb).more hb.size))
  obtain ⟨m, hmm⟩ : ∃ m, m = tlen l n := ⟨_, rfl⟩
  rw [← hmm] at HT hm ⊢
  have g1 : decide ((2048 : Int) < (m : Int)) = false := decide_eq_false (by omega)
  clear hR hn hc hc2 hmm
  go_enter Tryz.func85, Tryz.ntmps85
  go_wp2_with fail
  refine (HT.out _ ((Below.refl _ w).alloc (Nat.le_refl _) _)).mono ?_
  rintro e w1 ⟨rfl, hb1⟩
  have bz := (Blk.new w 27 #[.bool false, .slice none 0 0]).below hb1 (by simp)
  have hB1 : Below w.heap.size w w1 := ((Below.refl _ w).alloc (Nat.le_refl _) _).trans (hb1.mono (by simp))
  clear hb1
  go_wp2_with (first
    | (refine store_big rfl _ _ rfl bz false A m c rfl rfl rfl ?_; intro w8 hD8 hO8 hz8)
    | (refine wpList_skip (by rfl) ?_))
  refine bodyPost_ret (results_cell_row rfl _ _ w.heap.size 27 _ (0, 0) _ rfl hD8 Tryz.underlying27 rfl bigSize) rfl ?_
  exact ⟨rfl, hB1.trans (hO8.toBelow hB1.size (Nat.le_refl _))⟩
theorem app_digs {ops : Array Oper} {rest : List Oper} {o : Oper} {a : Act} {Q : Exit → Act → World → Prop} (hgd : o.guard = none) (s x : Operand) (ho : o.op = .call { callee := .builtin .append, args := #[s, x], argTypes := #[131, 131] })
    (base : Nat) {w : World} (v : Value) (l : List Int) (hs : a.eval s = v) (hown : IOwn w base v l) (y : Int) {g : Nat} {t : TypeId} (hg : Blk w g t #[.int .i64 y])
    (hx : a.eval x = .slice (some ⟨g, 0, none⟩) 1 1) (h47 : l.length + 1 ≤ 1000000000000) (hbase : base ≤ w.heap.size)
    (h : ∀ v' w', IOwn w' base v' (l ++ [y]) → Grew w w' v v' → wpList Tryz.prog ops Q rest (a.put o.dst v') w') : wpList Tryz.prog ops Q (o :: rest) a w := by
  have hR : Rd w w.heap.size (some ⟨g, 0, none⟩) (1 * 1) (fun _ => .int .i64 y) := Rd.of_blk hg hg.lt fun k hk => by
    rcases k with _ | k <;> first | rfl | omega
  have hsrc := src_rd (P := Tryz.prog) w (size := 1) (tx := 131) (n := 1) (c := 1) Tryz.underlying131 hR (by omega) (fun k _ => rfl)
  exact wpList_append_src w hgd s x 131 131 ho base 3 iInfo (.int .i64 0) 1 8 Tryz.underlying131 iInfo_eq iInfo_zero iInfo_size iInfo_bytes rfl v l.length (icells l) hs hown _ 1 [.int .i64 y] hx hsrc
    (by simp only [maxLen]; omega) (by omega) hbase fun v' w' h1 h2 => h v' w' (by
      show World.ownsRow w' base 3 1 v' (l ++ [y]).length (icells (l ++ [y]))
      rw [icells_append, List.length_append]; exact h1) h2
/-- The digits of a number below the base. -/
def natL (n : Nat) : List Int := if n = 0 then [] else [(n : Int)]
theorem natL_dig (n : Nat) (h : n < 1073741824) : DigL (natL n) := fun x hx => by
  unfold natL at hx
  split at hx
  · cases hx
  · rw [List.mem_singleton.1 hx]; omega
theorem natL_trim (n : Nat) : TrimL (natL n) := fun h => by
  unfold natL at h ⊢
  split at h
  · simp at h
  · rename_i h0
    rw [if_neg h0]
    show (n : Int) ≠ 0
    omega
theorem natL_val (n : Nat) : valL (natL n) = n := by
  unfold natL
  split
  · rename_i h; subst h; rfl
  · show dsum _ 1 = _
    simp [dsum, bp, dg]
theorem natL_len (n : Nat) : (natL n).length ≤ 1 := by
  unfold natL
  split <;> simp
/-- An integer that was made: its sign, digits of the call's own. -/
def BigPost (v : Int) (w : World) (e : Ending) (w' : World) : Prop :=
  ∃ (l : List Int) (A : Option Addr) (c : Nat), e = .returned (.agg #[.bool false, .slice A l.length c]) ∧ valL l = v ∧ BigOk w' w'.heap.size false A l.length c l ∧ Below w.heap.size w w'
theorem and_mask64 (s : Int) (h : 0 ≤ s ∧ s < 1073741824) : bits .and .u64 s 1073741823 = s := by
  obtain ⟨a, rfl⟩ : ∃ a : Nat, s = a := ⟨s.toNat, by omega⟩
  show IntKind.u64.wrap ((BitVec.ofInt 64 (a : Int) &&& BitVec.ofInt 64 1073741823).toNat : Int) = _
  rw [BitVec.toNat_and, BitVec.toNat_ofInt, BitVec.toNat_ofInt]
  have e2 : ((1073741823 : Int) % ((2 ^ 64 : Nat) : Int)).toNat = 2 ^ 30 - 1 := by decide
  rw [e2, Nat.and_two_pow_sub_one_eq_mod]
  have e3 : (((a : Int) % ((2 ^ 64 : Nat) : Int)).toNat % 2 ^ 30 : Nat) = a := by
    have : ((2 ^ 64 : Nat) : Int) = 18446744073709551616 := by decide
    rw [this, show (2 : Nat) ^ 30 = 1073741824 by decide]
    omega
  rw [e3]
  show ((a : Int) % _) = _
  rw [show (2 : Int) ^ IntKind.u64.bits = 18446744073709551616 by decide]
  omega
set_option maxRecDepth 100000 in
set_option linter.unusedSimpArgs false in
set_option linter.unusedVariables false in
set_option maxHeartbeats 4000000 in
theorem nMake_ok (n : Nat) (h : n < 1073741824) (w : World) : Calls Tryz.prog 46 #[.int .i64 n] w (BigPost n w) := by
  have hn0 : decide ((n : Int) < 0) = false := decide_eq_false (by omega)
  go_enter Tryz.func46, Tryz.ntmps46
  go_wp2_with fail
  obtain ⟨W0, hW0⟩ : ∃ W, W = (w.alloc (.cells #[.bool false, .slice none 0 0] 27)).alloc (.cells #[] 3) := ⟨_, rfl⟩
  have bz0 : Blk W0 w.heap.size 27 #[.bool false, .slice none 0 0] := by rw [hW0]; exact (Blk.new w _ _).alloc _
  have hO0 : IOwn W0 (w.heap.size + 1) (.slice (some ⟨w.heap.size + 1, 0, none⟩) 0 0) [] := by
    rw [hW0]
    exact ⟨rfl, .inr ⟨w.heap.size + 1, 0, #[], rfl, Nat.le_refl _, by
      have h := heap_alloc_new (w.alloc (.cells #[.bool false, .slice none 0 0] 27)) (.cells #[] 3)
      simpa using h, Nat.le_refl _, by simp only [maxLen]; omega, rfl, rfl⟩⟩
  have hB0 : Below w.heap.size w W0 := by rw [hW0]; exact ((Below.refl _ w).alloc (Nat.le_refl _) _).alloc (by simp) _
  rw [← hW0]
  clear hW0
  go_loopw [3, 4] (fun mv uv wr => ∃ (u : Nat) (l : List Int), uv = .int .u64 u ∧ ((u = n ∧ l = [] ∧ 0 < n) ∨ (u = 0 ∧ l = natL n)) ∧ IOwn wr (w.heap.size + 1) mv l ∧ Blk wr w.heap.size 27 #[.bool false, .slice none 0 0] ∧ Below w.heap.size w wr) (fun _ uv _ => (intOf uv).toNat)
  case atStart =>
    refine ⟨n, [], rfl, ?_, hO0, bz0, hB0⟩
    rcases Nat.eq_zero_or_pos n with h0 | h0
    · exact .inr ⟨h0, by subst h0; rfl⟩
    · exact .inl ⟨rfl, rfl, h0⟩
  case round =>
    clear hO0 bz0 hB0
    obtain ⟨u, l, rfl, hul, hO, bz, hB⟩ := hrel
    rcases hul with ⟨rfl, rfl, hpos⟩ | ⟨rfl, rfl⟩
    · have g1 : decide ((0 : Int) < (u : Int)) = true := decide_eq_true (by omega)
      have g1n : decide (0 < u) = true := decide_eq_true hpos
      have g2 := and_mask64 (u : Int) (by omega)
      have g3 : (u : Int) / 1073741824 = ((0 : Nat) : Int) := by omega
      have g4 : wrap64 (u : Int) = (u : Int) := wrap_in _ (by omega)
      have HE := Lib.hid (show natL u = [(u : Int)] by rw [natL, if_neg (by omega)])
      have hsz := hB.size
      have hbl := bz.lt
      have HOA := Lib.hid (IOwn.alloc hO (.cells #[.int .i64 (u : Int)] 3))
      have hbs : w.heap.size + 1 ≤ (wr.alloc (.cells #[.int .i64 (u : Int)] 3)).heap.size := by simp only [World.size_alloc]; omega
      have HLO := Lib.hid (fun g e => World.ownsRow.lt hO g e)
      have HBZ := Lib.hid bz
      have HB := Lib.hid hB
      clear hO bz hB
      go_wp2_with (at_builtin; refine app_digs rfl _ _ rfl (w.heap.size + 1) u3 [] rfl HOA.out (u : Int) (Blk.new _ _ _) rfl (by simp) hbs ?_; intro v7 w7 hown7 hg7)
      go_roundw
      case rel =>
        have hg0 := hg7.alloc_first
        refine ⟨0, natL u, by go_num, .inr ⟨rfl, rfl⟩, by rw [HE.out]; exact hown7, HBZ.out.grown hg0.1 (fun e => by have := (HLO.out _ e.symm).1; omega), HB.out.trans (hg0.below hsz fun g e => by have := (HLO.out g e).1; omega)⟩
      case measure => simp [intOf]; omega
    · obtain ⟨A, c, rfl, hc, hc2, -⟩ := hO.shape
      have hrd := hO.mrd rfl
      have hll := natL_len n
      obtain ⟨m, hm⟩ : ∃ m, m = (natL n).length := ⟨_, rfl⟩
      have HM := Lib.hid hm
      have HO := Lib.hid hO
      have HB := Lib.hid hB
      have HBZ := Lib.hid bz
      rw [← hm] at hc hll ⊢
      clear hO hB bz hm hrd
      go_wp2_with (refine store_big rfl _ _ rfl HBZ.out false A m c rfl rfl rfl ?_; intro w8 hD8 hO8 hz8)
      refine bodyPost_ret (results_cell_row rfl _ _ w.heap.size 27 _ (0, 0) _ rfl hD8 Tryz.underlying27 rfl bigSize) rfl ?_
      have hO9 : IOwn w8 (w.heap.size + 1) (.slice A (natL n).length c) (natL n) := World.ownsRow.kept HO.out hO8 (by
        cases e : (Value.slice A (natL n).length c).ownBlock with
        | none => exact .inl rfl
        | some g => exact .inr fun e2 => by have h3 := (World.ownsRow.lt HO.out g e).1; cases e2; omega)
      rw [HM.out]
      refine ⟨natL n, A, c, rfl, natL_val n, ⟨rfl, by rw [← HM.out]; exact hc, hc2, fun h => ?_, natL_dig n h, natL_trim n, by rw [← HM.out]; omega, fun _ => rfl, hO9.mrd rfl⟩, HB.out.trans (hO8.toBelow HB.out.size (Nat.le_refl _))⟩
      subst h
      rcases hO9.2 with ⟨e, -⟩ | ⟨g, cap, cur, e, -⟩
      · simp only [Value.slice.injEq] at e
        exact e.2.2
      · simp only [Value.slice.injEq] at e
        exact absurd e.1 (by simp)
end Go.Proofs.YtkkcbkfpaoldmaaGreatDoor

/- 'podiumtop.TopRecount' returns true at every input, and each argument reads afterwards as it read before; the two package-level tables of digest hold at the call what the program's text lays there (the card ties them). -/
import Derived.Test.YtkkcbkfpaoldmaaGreatDoorOpens
import Derived.Test.YtkkcbkfpaoldmaaGreatDoorTO
import Derived.Test.YtkkcbkfpaoldmaaGreatDoorTZ
namespace Go.Proofs.YtkkcbkfpaoldmaaGreatDoor.TopRecountC
open Go Go.ChangeShapes Go.WideShapes Go.ChangeAt Go.RowKit

set_option maxRecDepth 100000 in
theorem contract (H : Type) (enc : TypeId × Value → H) (W : World) (base : Nat) (args : Array Value) (ds gs : List (DataW H)) (before : List MemPlace)
    (hval : ∀ (j : Nat) t v, Tryz.f3.params[j]? = some t → args[j]? = some v → Value.okWide Tryz.prog W .any base t v)
    (hW : DataW.Whole enc Tryz.prog Tryz.f3.params.toList Rows.topRecountSpec.vars false W args.toList ds gs before) (hk : (DataW.weightsEach Tryz.prog (Tryz.f3.params.toList ++ (OpenSpec.ofChange Rows.topRecountSpec).bare.plain.varTypes Tryz.prog) (ds ++ gs)).all (· ≤ reachBytes) = true) (hL : Laid W) :
    Calls Tryz.prog 3 args W fun e W' => ∃ v, e = .returned v ∧ Rows.topRecountSpec.post enc Tryz.prog Tryz.f3 false true false false W args v W' := by
  have hW' := hW
  obtain ⟨p, q, hA0, hV, hps, hfz, hnd⟩ := hW
  have hA : DataW.TrodAll enc Tryz.prog W 0 (fun _ => true) true Tryz.f3.params.toList args.toList ds p := hA0
  rw [Tryz.params3] at hA hval hk
  obtain ⟨v0, vs0, d0, ds0, p0, q0, hargs, rfl, rfl, h0, r0⟩ := trodAll_cons hA
  obtain ⟨v1, vs1, d1, ds1, p1, q1, rfl, rfl, rfl, h1, r1⟩ := trodAll_cons r0
  obtain ⟨v2, vs2, d2, ds2, p2, q2, rfl, rfl, rfl, h2, r2⟩ := trodAll_cons r1
  obtain ⟨v3, vs3, d3, ds3, p3, q3, rfl, rfl, rfl, h3, r3⟩ := trodAll_cons r2
  obtain ⟨v4, vs4, d4, ds4, p4, q4, rfl, rfl, rfl, h4, r4⟩ := trodAll_cons r3
  obtain ⟨v5, vs5, d5, ds5, p5, q5, rfl, rfl, rfl, h5, r5⟩ := trodAll_cons r4
  obtain ⟨rfl, rfl, rfl⟩ := trodAll_nil r5
  obtain rfl : args = #[v0, v1, v2, v3, v4, v5] := by cases args; simp_all
  obtain ⟨rfl, rfl⟩ := trodVars_none hV
  obtain ⟨x0, rfl⟩ := open_crit (hval 0 23 v0 rfl rfl) h0
  obtain ⟨A1, n1, c1, Af1, Nf1, Cf1, Mf1, rfl, hn1, hM1, hB1⟩ := open_intss (hval 1 24 v1 rfl rfl) h1
  obtain ⟨A2, n2, c2, Af2, Nf2, Cf2, Mf2, rfl, hn2, hM2, hB2⟩ := open_intss (hval 2 24 v2 rfl rfl) h2
  obtain ⟨a3, rfl, rfl, rfl, w3⟩ := open_int Tryz.underlying5 (hval 3 5 v3 rfl rfl) h3
  obtain ⟨b1, b2, A3, A4, n3, c3, n4, c4, pp, qq, rfl, hLm⟩ := open_ratio (hval 4 29 v4 rfl rfl) h4
  obtain ⟨x5, hx5, rfl⟩ := open_dig (hval 5 31 v5 rfl rfl)
  simp only [List.cons_append, List.nil_append, DataW.weightsEach, List.all_append, Bool.and_eq_true] at hk
  have hk2 := hB1 reachBytes hk.2.1
  have hu := u8_range w3
  obtain ⟨sm, rfl⟩ : ∃ sm : Nat, a3 = (sm : Int) := ⟨a3.toNat, by omega⟩
  refine (topRecount_any x0 A1 A2 n1 c1 n2 c2 Af1 Af2 Nf1 Cf1 Nf2 Cf2 Mf1 Mf2 sm (by omega) b1 b2 A3 A4 n3 c3 n4 c4 pp qq x5 hx5 W hL hM1 hM2 hLm (fun k hkk => by have h9 := hk2 k hkk; simp only [reachBytes] at h9; omega) hn1).mono fun e W' ⟨he, hb⟩ => ?_
  subst he
  have hr : Tryz.f3.resultTypes = #[4] := by kernel_rfl
  have hrd : (Tryz.f3.params.toList.all fun t => Tryz.prog.readableRec t && decide (t < Tryz.prog.types.size)) = true := by kernel_rfl
  exact ⟨_, rfl, post_true laidOut hW' rfl hr Tryz.underlying4 rfl hrd hb⟩

def zeros : Array Value := #[(.agg #[.string ⟨#[]⟩, .int .i64 0, .int .i64 0, .int .i64 0, .int .i64 0, .int .i64 0, .bool false] : Value), (.slice none 0 0 : Value), (.slice none 0 0 : Value), (.int .u8 0 : Value), (.agg #[.bool false, .slice none 0 0, .bool false, .slice none 0 0] : Value), (.agg #[.int .u8 0, .int .u8 0, .int .u8 0, .int .u8 0, .int .u8 0, .int .u8 0, .int .u8 0, .int .u8 0, .int .u8 0, .int .u8 0, .int .u8 0, .int .u8 0, .int .u8 0, .int .u8 0, .int .u8 0, .int .u8 0, .int .u8 0, .int .u8 0, .int .u8 0, .int .u8 0, .int .u8 0, .int .u8 0, .int .u8 0, .int .u8 0, .int .u8 0, .int .u8 0, .int .u8 0, .int .u8 0, .int .u8 0, .int .u8 0, .int .u8 0, .int .u8 0] : Value)]
theorem laid_met (os : Os) : laidMet Tryz.prog laidL ((laidWorld os).forCall (fun _ _ => 0) ⟨#[], zeros, []⟩).memory :=
  laidMet_of_run' 8 (by kernel_rfl) (by kernel_rfl)
theorem reads (os : Os) {H : Type} (enc : TypeId × Value → H) : ∃ places, DataW.whole enc Tryz.prog ((laidWorld os).forCall (fun _ _ => 0) ⟨#[], zeros, []⟩).memory Tryz.f3.params.toList Rows.topRecountSpec.vars false zeros.toList 8 = some ([.agg [.lit (.string []), .lit (.int .i64 0), .lit (.int .i64 0), .lit (.int .i64 0), .lit (.int .i64 0), .lit (.int .i64 0), .lit (.bool false)], .nil, .nil, .lit (.int .u8 0), .agg [.agg [.lit (.bool false), .nil], .agg [.lit (.bool false), .nil]], .agg [.lit (.int .u8 0), .lit (.int .u8 0), .lit (.int .u8 0), .lit (.int .u8 0), .lit (.int .u8 0), .lit (.int .u8 0), .lit (.int .u8 0), .lit (.int .u8 0), .lit (.int .u8 0), .lit (.int .u8 0), .lit (.int .u8 0), .lit (.int .u8 0), .lit (.int .u8 0), .lit (.int .u8 0), .lit (.int .u8 0), .lit (.int .u8 0), .lit (.int .u8 0), .lit (.int .u8 0), .lit (.int .u8 0), .lit (.int .u8 0), .lit (.int .u8 0), .lit (.int .u8 0), .lit (.int .u8 0), .lit (.int .u8 0), .lit (.int .u8 0), .lit (.int .u8 0), .lit (.int .u8 0), .lit (.int .u8 0), .lit (.int .u8 0), .lit (.int .u8 0), .lit (.int .u8 0), .lit (.int .u8 0)]], [], places) :=
  ⟨[], by kernel_rfl⟩

set_option maxRecDepth 100000 in
theorem lifted (os : Os) (started : os.Started) (H : Type) (enc : TypeId × Value → H) (F : Stop.Interp) :
    ReturnsInHanded {} Tryz.checked os 3 .any ((OpenSpec.ofChange Rows.topRecountSpec).preRow enc Tryz.prog Tryz.f3 Rows.topRecountRow.domain false Rows.topRecountRow.laid) (((OpenSpec.ofChange Rows.topRecountSpec).at F).post enc Tryz.prog Tryz.f3 false true false false) := by
  obtain ⟨places, hx⟩ := reads os enc
  refine returnsInHanded_of_row (C := Tryz.checked) (s := OpenSpec.ofChange Rows.topRecountSpec) own started (by kernel_rfl) Tryz.func3
    (witness_row_at (enc := enc) (C := Tryz.checked) false (laidWorld os) zeros rfl (by kernel_rfl) (by kernel_rfl) (by kernel_rfl)
      (OpenSpec.preRow_of_cond 8 hx (by kernel_rfl) (fun k hk => by cases hk) (by kernel_rfl) (laid_met os))) ?_
  intro W base args ds gs before hval hW _ _ hwt hL _ _
  exact contract H enc W base args ds gs before hval hW hwt (laid_of hL)

set_option maxRecDepth 100000 in
set_option maxHeartbeats 8000000 in
theorem closed : joinedFacts Tryz.pinned.checked.prog 3 Tryz.f3 (OpenSpec.ofChange Rows.topRecountSpec).bare Rows.topRecountRow = true := by
  unfold joinedFacts
  simp only [Bool.and_eq_true]
  refine ⟨⟨⟨⟨⟨⟨⟨⟨⟨⟨⟨⟨⟨⟨⟨⟨⟨⟨⟨⟨⟨⟨⟨⟨⟨⟨⟨⟨⟨⟨⟨?k0, ?k1⟩, ?k2⟩, ?k3⟩, ?k4⟩, ?k5⟩, ?k6⟩, ?k7⟩, ?k8⟩, ?k9⟩, ?k10⟩, ?k11⟩, ?k12⟩, ?k13⟩, ?k14⟩, ?k15⟩, ?k16⟩, ?k17⟩, ?k18⟩, ?k19⟩, ?k20⟩, ?k21⟩, ?k22⟩, ?k23⟩, ?k24⟩, ?k25⟩, ?k26⟩, ?k27⟩, ?k28⟩, ?k29⟩, ?k30⟩, ?k31⟩
  case k0 => as_aux_lemma => kernel_rfl
  case k1 => as_aux_lemma => kernel_rfl
  case k2 => as_aux_lemma => kernel_rfl
  case k3 => as_aux_lemma => kernel_rfl
  case k4 => as_aux_lemma => kernel_rfl
  case k5 => as_aux_lemma => kernel_rfl
  case k6 => as_aux_lemma => kernel_rfl
  case k7 => as_aux_lemma => kernel_rfl
  case k8 => as_aux_lemma => kernel_rfl
  case k9 => as_aux_lemma => kernel_rfl
  case k10 => as_aux_lemma => kernel_rfl
  case k11 => as_aux_lemma => kernel_rfl
  case k12 => as_aux_lemma => kernel_rfl
  case k13 => as_aux_lemma => kernel_rfl
  case k14 => as_aux_lemma => kernel_rfl
  case k15 => as_aux_lemma => kernel_rfl
  case k16 => as_aux_lemma => kernel_rfl
  case k17 => as_aux_lemma => kernel_rfl
  case k18 => as_aux_lemma => kernel_rfl
  case k19 => as_aux_lemma => kernel_rfl
  case k20 => as_aux_lemma => kernel_rfl
  case k21 => as_aux_lemma => kernel_rfl
  case k22 => as_aux_lemma => kernel_rfl
  case k23 => as_aux_lemma => kernel_rfl
  case k24 => as_aux_lemma => kernel_rfl
  case k25 => as_aux_lemma => kernel_rfl
  case k26 => as_aux_lemma => kernel_rfl
  case k27 => as_aux_lemma => kernel_rfl
  case k28 => as_aux_lemma => kernel_rfl
  case k29 => as_aux_lemma => kernel_rfl
  case k30 => as_aux_lemma => kernel_rfl
  case k31 => as_aux_lemma => kernel_rfl

set_option maxHeartbeats 8000000 in
theorem said : Rows.TopRecountSaid :=
  OpenClaim.holds_of_cond 3 Tryz.f3 rfl rfl rfl rfl rfl rfl rfl ⟨rfl, rfl, rfl, rfl, rfl⟩ rfl rfl rfl rfl rfl (by kernel_rfl) Tryz.func3 closed
    (of_decide_eq_true (by kernel_rfl)) (by unfold Func.isWrapper; first | (rw [if_pos (by decide +kernel)]; kernel_rfl) | (rw [if_neg (by decide +kernel)]; exact ⟨rfl, rfl⟩))
    (fun os started H enc _ F => by rw [OpenClaim.pre_eq_preRow]; exact lifted os started H enc F)

/-- No parameter wants a stand-in; the program's own looks are off. -/
theorem plain (f : FuncId) (fn : Func) (hf : Tryz.pinned.checked.prog.funcNamed "podium/podiumtop.TopRecount" = some f) (hfn : Tryz.pinned.checked.prog.funcs[f]? = some fn) :
    true = Tryz.pinned.checked.prog.looks [] ∧ ∀ (j : Nat) t, fn.params[j]? = some t → Tryz.pinned.checked.prog.wantsStandIn t = false := by
  obtain rfl : f = 3 := Option.some.inj ((show Tryz.prog.funcNamed "podium/podiumtop.TopRecount" = some 3 by kernel_rfl).symm.trans hf) |>.symm
  obtain rfl : fn = Tryz.f3 := (Option.some.inj (Tryz.func3.symm.trans hfn)).symm
  refine ⟨by kernel_rfl, fun j t ht => ?_⟩
  have hall : (Tryz.f3.params.all fun t => Tryz.prog.wantsStandIn t == false) = true := by kernel_rfl
  have := (Array.all_eq_true_iff_forall_mem.1 hall) t (Array.mem_of_getElem? ht)
  exact eq_of_beq this

theorem wfText : Rows.topRecountRow.wfByText (OpenSpec.ofChange Rows.topRecountSpec) = true := by kernel_rfl
theorem goes : false = Rows.topRecountRow.goesBy Tryz.pinned.checked.prog := by kernel_rfl
theorem card : Rows.TopRecountCardSaid :=
  Claim7.holds_tied_plain_at .later [] _ _ _ _ said (fun _ h => by cases h) wfText (fun _ h => by cases h) topRecount_row_tie rfl ⟨rfl, rfl⟩ (by kernel_rfl) rfl plain goes
end Go.Proofs.YtkkcbkfpaoldmaaGreatDoor.TopRecountC
namespace Go.Proofs.YtkkcbkfpaoldmaaGreatDoor
theorem topRecount_card : Rows.TopRecountCardSaid := TopRecountC.card
#print axioms topRecount_card
end Go.Proofs.YtkkcbkfpaoldmaaGreatDoor

/- 'podiumlaw31.BeaconFixed' returns true at every input, and each argument reads afterwards as it read before; the two package-level tables of digest hold at the call what the program's text lays there (the card ties them). -/
import Derived.Test.YtibnikokgbfcdaaDoorOpens
import Derived.Test.YtibnikokgbfcdaaDoorB3
import Derived.Test.YtibnikokgbfcdaaDoorBeFixed
import Derived.Test.YtibnikokgbfcdaaDoorHead
namespace Go.Proofs.YtibnikokgbfcdaaDoor.BeaconFixedC
open Go Go.ChangeShapes Go.WideShapes Go.ChangeAt Go.RowKit

set_option maxRecDepth 100000 in
theorem contract (H : Type) (enc : TypeId × Value → H) (W : World) (base : Nat) (args : Array Value) (ds gs : List (DataW H)) (before : List MemPlace)
    (hval : ∀ (j : Nat) t v, Tryd.f17.params[j]? = some t → args[j]? = some v → Value.okWide Tryd.prog W .any base t v)
    (hW : DataW.Whole enc Tryd.prog Tryd.f17.params.toList Rows.beaconFixedSpec.vars false W args.toList ds gs before) (hL : Laid W) :
    Calls Tryd.prog 17 args W fun e W' => ∃ v, e = .returned v ∧ Rows.beaconFixedSpec.post enc Tryd.prog Tryd.f17 false true false false W args v W' := by
  have hW' := hW
  obtain ⟨p, q, hA0, hV, hps, hfz, hnd⟩ := hW
  have hA : DataW.TrodAll enc Tryd.prog W 0 (fun _ => true) true Tryd.f17.params.toList args.toList ds p := hA0
  rw [Tryd.params17] at hA hval
  obtain ⟨v0, vs0, d0, ds0, p0, q0, hargs, rfl, rfl, h0, r0⟩ := trodAll_cons hA
  obtain ⟨v1, vs1, d1, ds1, p1, q1, rfl, rfl, rfl, h1, r1⟩ := trodAll_cons r0
  obtain ⟨v2, vs2, d2, ds2, p2, q2, rfl, rfl, rfl, h2, r2⟩ := trodAll_cons r1
  obtain ⟨rfl, rfl, rfl⟩ := trodAll_nil r2
  obtain rfl : args = #[v0, v1, v2] := by cases args; simp_all
  obtain ⟨rfl, rfl⟩ := trodVars_none hV
  obtain ⟨A0, l0, c0, rfl, hl0, hc0, hI0, hR0⟩ := open_pledges (hval 0 58 v0 rfl rfl) h0
  obtain ⟨A1, l1, c1, rfl, hl1, hc1, hI1, hR1⟩ := open_reveals (hval 1 59 v1 rfl rfl) h1
  obtain ⟨A2, l2, c2, rfl, hl2, hc2, hI2, hR2⟩ := open_reveals (hval 2 59 v2 rfl rfl) h2
  refine (beaconFixed_any A0 l0 c0 hl0 hc0 hI0 A1 l1 c1 hl1 hc1 hI1 A2 l2 c2 hl2 hc2 hI2 W hL hR0 hR1 hR2).mono fun e W' ⟨he, hb⟩ => ?_
  subst he
  have hr : Tryd.f17.resultTypes = #[4] := by kernel_rfl
  have hrd : (Tryd.f17.params.toList.all fun t => Tryd.prog.readableRec t && decide (t < Tryd.prog.types.size)) = true := by kernel_rfl
  exact ⟨_, rfl, post_true laidOut hW' rfl hr Tryd.underlying4 rfl hrd hb⟩

def zeros : Array Value := #[(.slice none 0 0 : Value), (.slice none 0 0 : Value), (.slice none 0 0 : Value)]
theorem laid_met (os : Os) : laidMet Tryd.prog laidL ((laidWorld os).forCall (fun _ _ => 0) ⟨#[], zeros, []⟩).memory :=
  laidMet_of_run' 8 (by kernel_rfl) (by kernel_rfl)
theorem reads (os : Os) {H : Type} (enc : TypeId × Value → H) : ∃ places, DataW.whole enc Tryd.prog ((laidWorld os).forCall (fun _ _ => 0) ⟨#[], zeros, []⟩).memory Tryd.f17.params.toList Rows.beaconFixedSpec.vars false zeros.toList 8 = some ([.nil, .nil, .nil], [], places) :=
  ⟨[], by kernel_rfl⟩

set_option maxRecDepth 100000 in
theorem lifted (os : Os) (started : os.Started) (H : Type) (enc : TypeId × Value → H) (F : Stop.Interp) :
    ReturnsInHanded {} Tryd.checked os 17 .any ((OpenSpec.ofChange Rows.beaconFixedSpec).preRow enc Tryd.prog Tryd.f17 Rows.beaconFixedRow.domain false Rows.beaconFixedRow.laid) (((OpenSpec.ofChange Rows.beaconFixedSpec).at F).post enc Tryd.prog Tryd.f17 false true false false) := by
  obtain ⟨places, hx⟩ := reads os enc
  refine returnsInHanded_of_row (C := Tryd.checked) (s := OpenSpec.ofChange Rows.beaconFixedSpec) own started (by kernel_rfl) Tryd.func17
    (witness_row_at (enc := enc) (C := Tryd.checked) false (laidWorld os) zeros rfl (by kernel_rfl) (by kernel_rfl) (by kernel_rfl)
      (OpenSpec.preRow_of_cond 8 hx (by kernel_rfl) (fun k hk => by cases hk) (by kernel_rfl) (laid_met os))) ?_
  intro W base args ds gs before hval hW _ _ _ hL _ _
  exact contract H enc W base args ds gs before hval hW (laid_of hL)

set_option maxRecDepth 100000 in
set_option maxHeartbeats 8000000 in
theorem closed : joinedFacts Tryd.pinned.checked.prog 17 Tryd.f17 (OpenSpec.ofChange Rows.beaconFixedSpec).bare Rows.beaconFixedRow = true := by
  unfold joinedFacts
  simp only [Bool.and_eq_true]
  refine ⟨⟨⟨⟨⟨⟨⟨⟨⟨⟨⟨⟨⟨⟨⟨⟨⟨⟨⟨⟨⟨⟨⟨⟨⟨⟨⟨⟨⟨⟨⟨?k0, ?k1⟩, ?k2⟩, ?k3⟩, ?k4⟩, ?k5⟩, ?k6⟩, ?k7⟩, ?k8⟩, ?k9⟩, ?k10⟩, ?k11⟩, ?k12⟩, ?k13⟩, ?k14⟩, ?k15⟩, ?k16⟩, ?k17⟩, ?k18⟩, ?k19⟩, ?k20⟩, ?k21⟩, ?k22⟩, ?k23⟩, ?k24⟩, ?k25⟩, ?k26⟩, ?k27⟩, ?k28⟩, ?k29⟩, ?k30⟩, ?k31⟩
  case k0 => as_aux_lemma => kernel_rfl
  case k1 => as_aux_lemma => kernel_rfl
  case k2 => as_aux_lemma => kernel_rfl
  case k3 => as_aux_lemma => kernel_rfl
  case k4 => as_aux_lemma => kernel_rfl
  case k5 => as_aux_lemma => kernel_rfl
  case k6 => as_aux_lemma => kernel_rfl
  case k7 => as_aux_lemma => kernel_rfl
  case k8 => as_aux_lemma => kernel_rfl
  case k9 => as_aux_lemma => kernel_rfl
  case k10 => as_aux_lemma => kernel_rfl
  case k11 => as_aux_lemma => kernel_rfl
  case k12 => as_aux_lemma => kernel_rfl
  case k13 => as_aux_lemma => kernel_rfl
  case k14 => as_aux_lemma => kernel_rfl
  case k15 => as_aux_lemma => kernel_rfl
  case k16 => as_aux_lemma => kernel_rfl
  case k17 => as_aux_lemma => kernel_rfl
  case k18 => as_aux_lemma => kernel_rfl
  case k19 => as_aux_lemma => kernel_rfl
  case k20 => as_aux_lemma => kernel_rfl
  case k21 => as_aux_lemma => kernel_rfl
  case k22 => as_aux_lemma => kernel_rfl
  case k23 => as_aux_lemma => kernel_rfl
  case k24 => as_aux_lemma => kernel_rfl
  case k25 => exact mayEnter_yes
  case k26 => show (Rows.beaconFixedRow.lifted == Tryd.prog.liftsFinal) = true; rw [liftsFinal_no]; rfl
  case k27 => show (Tryd.prog.make == some Rows.beaconFixedRow.make) = true; rw [make_cut]; rfl
  case k28 => as_aux_lemma => kernel_rfl
  case k29 => as_aux_lemma => kernel_rfl
  case k30 => as_aux_lemma => kernel_rfl
  case k31 => as_aux_lemma => kernel_rfl

set_option maxHeartbeats 8000000 in
theorem said : Rows.BeaconFixedSaid :=
  OpenClaim.holds_of_cond 17 Tryd.f17 rfl rfl rfl rfl rfl rfl rfl ⟨rfl, rfl, rfl, rfl, rfl⟩ rfl rfl rfl rfl rfl (by kernel_rfl) Tryd.func17 closed
    (of_decide_eq_true (by kernel_rfl)) (by unfold Func.isWrapper; first | (rw [if_pos (by decide +kernel)]; kernel_rfl) | (rw [if_neg (by decide +kernel)]; exact ⟨rfl, rfl⟩))
    (fun os started H enc _ F => by rw [OpenClaim.pre_eq_preRow]; exact lifted os started H enc F)

/-- No parameter wants a stand-in; the program's own looks are off. -/
theorem plain (f : FuncId) (fn : Func) (hf : Tryd.pinned.checked.prog.funcNamed "podium/podiumlaw31.BeaconFixed" = some f) (hfn : Tryd.pinned.checked.prog.funcs[f]? = some fn) :
    true = Tryd.pinned.checked.prog.looks [] ∧ ∀ (j : Nat) t, fn.params[j]? = some t → Tryd.pinned.checked.prog.wantsStandIn t = false := by
  obtain rfl : f = 17 := Option.some.inj ((show Tryd.prog.funcNamed "podium/podiumlaw31.BeaconFixed" = some 17 by kernel_rfl).symm.trans hf) |>.symm
  obtain rfl : fn = Tryd.f17 := (Option.some.inj (Tryd.func17.symm.trans hfn)).symm
  refine ⟨looks_eq, fun j t ht => ?_⟩
  have hall : (Tryd.f17.params.all fun t => Tryd.prog.wantsStandIn t == false) = true := by kernel_rfl
  have := (Array.all_eq_true_iff_forall_mem.1 hall) t (Array.mem_of_getElem? ht)
  exact eq_of_beq this

theorem wfText : Rows.beaconFixedRow.wfByText (OpenSpec.ofChange Rows.beaconFixedSpec) = true := by kernel_rfl
theorem goes : false = Rows.beaconFixedRow.goesBy Tryd.pinned.checked.prog := by kernel_rfl
theorem card : Rows.BeaconFixedCardSaid :=
  Claim7.holds_tied_plain_at .later [] _ _ _ _ said (fun _ h => by cases h) wfText (fun _ h => by cases h) beaconFixed_row_tie rfl ⟨rfl, rfl⟩ (mainIs_eq.trans (by kernel_rfl)) rfl plain goes
end Go.Proofs.YtibnikokgbfcdaaDoor.BeaconFixedC
namespace Go.Proofs.YtibnikokgbfcdaaDoor
theorem beaconFixed_card : Rows.BeaconFixedCardSaid := BeaconFixedC.card
#print axioms beaconFixed_card
end Go.Proofs.YtibnikokgbfcdaaDoor

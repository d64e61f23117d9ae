/-
  NARROWER THAN 'FOR EVERY INPUT', by the rows' own cells (each row's printed sentence says how): DrawSpec: laid · DrawOrderSpec: laid · DrawEven: laid · DrawPerm: laid · DrawReached: laid · DrawWords: laid · ChainAddSpec: laid · ChainBuilt: laid · ChainEqual: laid · ChainChanged: laid · ChainParts: laid · BeaconSpec: laid · BeaconBitsSpec: laid · BeaconMissing: laid · BeaconFixed: laid · BeaconOpened: laid · BeaconIdle: laid · BeaconFirst: laid · SampleSpec: laid · SampleStrataSpec: laid · SampleEven: laid · SampleFirst: laid · SampleParts: laid.
  DERIVED. THE GIVEN ROWS OF THIS SEAT. 23 by the template 'for every input the law returns true; each argument reads behind the call as it read before'; 0 by the template 'total and deterministic' (their statements: YtibnikokgbfcdaaDoorTotals.lean).
  GIVEN WITH THE SEED: the statements are not yours to turn. If you find one false, say at which input.
  Laid BY PROGRAM, IN A SANDBOX (cutbox-rows.mjs): the forced cells as the released guide's own fill.sh prints them over the translation 8df0e82e22bf8635… (all of the seat's roots in one cut). By AI agents, Wed Nov 11 2026. No macro, syntax, notation, axiom, sorry.
-/
import Derived.Test.YtibnikokgbfcdaaDoorChecked
import GoSem.Claim
import GoSem.ClaimJoined
import GoSem.ClaimMapViews
import Derived.JoinedTies
import Derived.KernelRfl
namespace Go.Proofs.YtibnikokgbfcdaaDoor
/- THE CELL 'sum', in the pinned program and in every row, IS THE sha256 OF THE DUMP (.gsa) THAT YtibnikokgbfcdaaDoorProg.lean LOADS. Nothing in Lean hashes anything: it is a label: what it is worth is what the hold of that sum in a sandbox is worth. -/
noncomputable def Tryd.pinned : Pinned := { name := "ytibnikokgbfcdaadoor", sum := "8df0e82e22bf863568fac9773f3d95c25f1f8bd8abc1660a728f3e8a96dda544", checked := Tryd.checked }
namespace Rows
def none {H : Type} : Left H := { results := [], args := [] }

/- WHAT THE LISTED PACKAGE-LEVEL VARIABLES READ AS WHEN THE CALL BEGINS. Each datum BY PROGRAM (the guide's laid-datum.mjs) off the statement by which the dump's own 'gosem.cut.vars' lays the variable. In a bare row this is a premise. The card (YtibnikokgbfcdaaDoorCards.lean) ties it to the program's text. -/
def laid_podium_digest_start {H : Type} : DataW H := .agg [.lit (.int .u32 1779033703), .lit (.int .u32 3144134277), .lit (.int .u32 1013904242), .lit (.int .u32 2773480762), .lit (.int .u32 1359893119), .lit (.int .u32 2600822924), .lit (.int .u32 528734635), .lit (.int .u32 1541459225)]
def laid_podium_digest_numbers {H : Type} : DataW H := .agg [.lit (.int .u32 1116352408), .lit (.int .u32 1899447441), .lit (.int .u32 3049323471), .lit (.int .u32 3921009573), .lit (.int .u32 961987163), .lit (.int .u32 1508970993), .lit (.int .u32 2453635748), .lit (.int .u32 2870763221), .lit (.int .u32 3624381080), .lit (.int .u32 310598401), .lit (.int .u32 607225278), .lit (.int .u32 1426881987), .lit (.int .u32 1925078388), .lit (.int .u32 2162078206), .lit (.int .u32 2614888103), .lit (.int .u32 3248222580), .lit (.int .u32 3835390401), .lit (.int .u32 4022224774), .lit (.int .u32 264347078), .lit (.int .u32 604807628), .lit (.int .u32 770255983), .lit (.int .u32 1249150122), .lit (.int .u32 1555081692), .lit (.int .u32 1996064986), .lit (.int .u32 2554220882), .lit (.int .u32 2821834349), .lit (.int .u32 2952996808), .lit (.int .u32 3210313671), .lit (.int .u32 3336571891), .lit (.int .u32 3584528711), .lit (.int .u32 113926993), .lit (.int .u32 338241895), .lit (.int .u32 666307205), .lit (.int .u32 773529912), .lit (.int .u32 1294757372), .lit (.int .u32 1396182291), .lit (.int .u32 1695183700), .lit (.int .u32 1986661051), .lit (.int .u32 2177026350), .lit (.int .u32 2456956037), .lit (.int .u32 2730485921), .lit (.int .u32 2820302411), .lit (.int .u32 3259730800), .lit (.int .u32 3345764771), .lit (.int .u32 3516065817), .lit (.int .u32 3600352804), .lit (.int .u32 4094571909), .lit (.int .u32 275423344), .lit (.int .u32 430227734), .lit (.int .u32 506948616), .lit (.int .u32 659060556), .lit (.int .u32 883997877), .lit (.int .u32 958139571), .lit (.int .u32 1322822218), .lit (.int .u32 1537002063), .lit (.int .u32 1747873779), .lit (.int .u32 1955562222), .lit (.int .u32 2024104815), .lit (.int .u32 2227730452), .lit (.int .u32 2361852424), .lit (.int .u32 2428436474), .lit (.int .u32 2756734187), .lit (.int .u32 3204031479), .lit (.int .u32 3329325298)]

/-- 'podiumlaw32.DrawSpec': WHATEVER THE INPUT: true; the input reads as it did. -/
def drawSpecSpec : ChangeSpec := { name := "drawSpec", fn := fun _ => fun
  | [d1, d2, d3, d4] => { results := [.lit (.bool true)], args := [d1, d2, d3, d4] }
  | _ => none }
def drawSpecRow : OpenClaim := { program := "ytibnikokgbfcdaadoor", sum := "8df0e82e22bf863568fac9773f3d95c25f1f8bd8abc1660a728f3e8a96dda544", func := "podium/podiumlaw32.DrawSpec", spec := "drawSpec", unfollowed := true, recurses := true, named := ["podium/digest.start", "podium/digest.numbers"], apart := false, laid := [("podium/digest.start", laid_podium_digest_start), ("podium/digest.numbers", laid_podium_digest_numbers)] }
def DrawSpecSaid : Prop := drawSpecRow.holds Tryd.pinned (OpenSpec.ofChange drawSpecSpec)

/-- ITS FALSE NEIGHBOUR: 'it returns false'. Refute it at one input. -/
def drawSpecWrong : ChangeSpec := { name := "drawSpec", fn := fun _ => fun
  | [d1, d2, d3, d4] => { results := [.lit (.bool false)], args := [d1, d2, d3, d4] }
  | _ => none }
def DrawSpecWrongFalsely : Prop := drawSpecRow.holds Tryd.pinned (OpenSpec.ofChange drawSpecWrong)

/-- 'podiumlaw32.DrawOrderSpec': WHATEVER THE INPUT: true; the input reads as it did. -/
def drawOrderSpecSpec : ChangeSpec := { name := "drawOrderSpec", fn := fun _ => fun
  | [d1, d2] => { results := [.lit (.bool true)], args := [d1, d2] }
  | _ => none }
def drawOrderSpecRow : OpenClaim := { program := "ytibnikokgbfcdaadoor", sum := "8df0e82e22bf863568fac9773f3d95c25f1f8bd8abc1660a728f3e8a96dda544", func := "podium/podiumlaw32.DrawOrderSpec", spec := "drawOrderSpec", unfollowed := true, recurses := true, named := ["podium/digest.start", "podium/digest.numbers"], apart := false, laid := [("podium/digest.start", laid_podium_digest_start), ("podium/digest.numbers", laid_podium_digest_numbers)] }
def DrawOrderSpecSaid : Prop := drawOrderSpecRow.holds Tryd.pinned (OpenSpec.ofChange drawOrderSpecSpec)

/-- ITS FALSE NEIGHBOUR: 'it returns false'. Refute it at one input. -/
def drawOrderSpecWrong : ChangeSpec := { name := "drawOrderSpec", fn := fun _ => fun
  | [d1, d2] => { results := [.lit (.bool false)], args := [d1, d2] }
  | _ => none }
def DrawOrderSpecWrongFalsely : Prop := drawOrderSpecRow.holds Tryd.pinned (OpenSpec.ofChange drawOrderSpecWrong)

/-- 'podiumlaw32.DrawEven': WHATEVER THE INPUT: true; the input reads as it did. -/
def drawEvenSpec : ChangeSpec := { name := "drawEven", fn := fun _ => fun
  | [d1, d2, d3] => { results := [.lit (.bool true)], args := [d1, d2, d3] }
  | _ => none }
def drawEvenRow : OpenClaim := { program := "ytibnikokgbfcdaadoor", sum := "8df0e82e22bf863568fac9773f3d95c25f1f8bd8abc1660a728f3e8a96dda544", func := "podium/podiumlaw32.DrawEven", spec := "drawEven", unfollowed := true, recurses := true, named := ["podium/digest.start", "podium/digest.numbers"], apart := false, laid := [("podium/digest.start", laid_podium_digest_start), ("podium/digest.numbers", laid_podium_digest_numbers)] }
def DrawEvenSaid : Prop := drawEvenRow.holds Tryd.pinned (OpenSpec.ofChange drawEvenSpec)

/-- ITS FALSE NEIGHBOUR: 'it returns false'. Refute it at one input. -/
def drawEvenWrong : ChangeSpec := { name := "drawEven", fn := fun _ => fun
  | [d1, d2, d3] => { results := [.lit (.bool false)], args := [d1, d2, d3] }
  | _ => none }
def DrawEvenWrongFalsely : Prop := drawEvenRow.holds Tryd.pinned (OpenSpec.ofChange drawEvenWrong)

/-- 'podiumlaw32.DrawPerm': WHATEVER THE INPUT: true; the input reads as it did. -/
def drawPermSpec : ChangeSpec := { name := "drawPerm", fn := fun _ => fun
  | [d1, d2] => { results := [.lit (.bool true)], args := [d1, d2] }
  | _ => none }
def drawPermRow : OpenClaim := { program := "ytibnikokgbfcdaadoor", sum := "8df0e82e22bf863568fac9773f3d95c25f1f8bd8abc1660a728f3e8a96dda544", func := "podium/podiumlaw32.DrawPerm", spec := "drawPerm", unfollowed := true, recurses := true, named := ["podium/digest.start", "podium/digest.numbers"], apart := false, laid := [("podium/digest.start", laid_podium_digest_start), ("podium/digest.numbers", laid_podium_digest_numbers)] }
def DrawPermSaid : Prop := drawPermRow.holds Tryd.pinned (OpenSpec.ofChange drawPermSpec)

/-- ITS FALSE NEIGHBOUR: 'it returns false'. Refute it at one input. -/
def drawPermWrong : ChangeSpec := { name := "drawPerm", fn := fun _ => fun
  | [d1, d2] => { results := [.lit (.bool false)], args := [d1, d2] }
  | _ => none }
def DrawPermWrongFalsely : Prop := drawPermRow.holds Tryd.pinned (OpenSpec.ofChange drawPermWrong)

/-- 'podiumlaw32.DrawReached': WHATEVER THE INPUT: true; the input reads as it did. -/
def drawReachedSpec : ChangeSpec := { name := "drawReached", fn := fun _ => fun
  | [d1, d2] => { results := [.lit (.bool true)], args := [d1, d2] }
  | _ => none }
def drawReachedRow : OpenClaim := { program := "ytibnikokgbfcdaadoor", sum := "8df0e82e22bf863568fac9773f3d95c25f1f8bd8abc1660a728f3e8a96dda544", func := "podium/podiumlaw32.DrawReached", spec := "drawReached", unfollowed := true, recurses := true, named := ["podium/digest.start", "podium/digest.numbers"], apart := false, laid := [("podium/digest.start", laid_podium_digest_start), ("podium/digest.numbers", laid_podium_digest_numbers)] }
def DrawReachedSaid : Prop := drawReachedRow.holds Tryd.pinned (OpenSpec.ofChange drawReachedSpec)

/-- ITS FALSE NEIGHBOUR: 'it returns false'. Refute it at one input. -/
def drawReachedWrong : ChangeSpec := { name := "drawReached", fn := fun _ => fun
  | [d1, d2] => { results := [.lit (.bool false)], args := [d1, d2] }
  | _ => none }
def DrawReachedWrongFalsely : Prop := drawReachedRow.holds Tryd.pinned (OpenSpec.ofChange drawReachedWrong)

/-- 'podiumlaw32.DrawWords': WHATEVER THE INPUT: true; the input reads as it did. -/
def drawWordsSpec : ChangeSpec := { name := "drawWords", fn := fun _ => fun
  | [d1, d2, d3] => { results := [.lit (.bool true)], args := [d1, d2, d3] }
  | _ => none }
def drawWordsRow : OpenClaim := { program := "ytibnikokgbfcdaadoor", sum := "8df0e82e22bf863568fac9773f3d95c25f1f8bd8abc1660a728f3e8a96dda544", func := "podium/podiumlaw32.DrawWords", spec := "drawWords", unfollowed := true, recurses := true, named := ["podium/digest.start", "podium/digest.numbers"], apart := false, laid := [("podium/digest.start", laid_podium_digest_start), ("podium/digest.numbers", laid_podium_digest_numbers)] }
def DrawWordsSaid : Prop := drawWordsRow.holds Tryd.pinned (OpenSpec.ofChange drawWordsSpec)

/-- ITS FALSE NEIGHBOUR: 'it returns false'. Refute it at one input. -/
def drawWordsWrong : ChangeSpec := { name := "drawWords", fn := fun _ => fun
  | [d1, d2, d3] => { results := [.lit (.bool false)], args := [d1, d2, d3] }
  | _ => none }
def DrawWordsWrongFalsely : Prop := drawWordsRow.holds Tryd.pinned (OpenSpec.ofChange drawWordsWrong)

/-- 'podiumlaw08.ChainAddSpec': WHATEVER THE INPUT: true; the input reads as it did. -/
def chainAddSpecSpec : ChangeSpec := { name := "chainAddSpec", fn := fun _ => fun
  | [d1, d2, d3, d4] => { results := [.lit (.bool true)], args := [d1, d2, d3, d4] }
  | _ => none }
def chainAddSpecRow : OpenClaim := { program := "ytibnikokgbfcdaadoor", sum := "8df0e82e22bf863568fac9773f3d95c25f1f8bd8abc1660a728f3e8a96dda544", func := "podium/podiumlaw08.ChainAddSpec", spec := "chainAddSpec", unfollowed := true, recurses := true, named := ["podium/digest.start", "podium/digest.numbers"], apart := false, laid := [("podium/digest.start", laid_podium_digest_start), ("podium/digest.numbers", laid_podium_digest_numbers)] }
def ChainAddSpecSaid : Prop := chainAddSpecRow.holds Tryd.pinned (OpenSpec.ofChange chainAddSpecSpec)

/-- ITS FALSE NEIGHBOUR: 'it returns false'. Refute it at one input. -/
def chainAddSpecWrong : ChangeSpec := { name := "chainAddSpec", fn := fun _ => fun
  | [d1, d2, d3, d4] => { results := [.lit (.bool false)], args := [d1, d2, d3, d4] }
  | _ => none }
def ChainAddSpecWrongFalsely : Prop := chainAddSpecRow.holds Tryd.pinned (OpenSpec.ofChange chainAddSpecWrong)

/-- 'podiumlaw08.ChainBuilt': WHATEVER THE INPUT: true; the input reads as it did. -/
def chainBuiltSpec : ChangeSpec := { name := "chainBuilt", fn := fun _ => fun
  | [d1, d2] => { results := [.lit (.bool true)], args := [d1, d2] }
  | _ => none }
def chainBuiltRow : OpenClaim := { program := "ytibnikokgbfcdaadoor", sum := "8df0e82e22bf863568fac9773f3d95c25f1f8bd8abc1660a728f3e8a96dda544", func := "podium/podiumlaw08.ChainBuilt", spec := "chainBuilt", unfollowed := true, recurses := true, named := ["podium/digest.start", "podium/digest.numbers"], apart := false, laid := [("podium/digest.start", laid_podium_digest_start), ("podium/digest.numbers", laid_podium_digest_numbers)] }
def ChainBuiltSaid : Prop := chainBuiltRow.holds Tryd.pinned (OpenSpec.ofChange chainBuiltSpec)

/-- ITS FALSE NEIGHBOUR: 'it returns false'. Refute it at one input. -/
def chainBuiltWrong : ChangeSpec := { name := "chainBuilt", fn := fun _ => fun
  | [d1, d2] => { results := [.lit (.bool false)], args := [d1, d2] }
  | _ => none }
def ChainBuiltWrongFalsely : Prop := chainBuiltRow.holds Tryd.pinned (OpenSpec.ofChange chainBuiltWrong)

/-- 'podiumlaw08.ChainEqual': WHATEVER THE INPUT: true; the input reads as it did. -/
def chainEqualSpec : ChangeSpec := { name := "chainEqual", fn := fun _ => fun
  | [d1, d2] => { results := [.lit (.bool true)], args := [d1, d2] }
  | _ => none }
def chainEqualRow : OpenClaim := { program := "ytibnikokgbfcdaadoor", sum := "8df0e82e22bf863568fac9773f3d95c25f1f8bd8abc1660a728f3e8a96dda544", func := "podium/podiumlaw08.ChainEqual", spec := "chainEqual", unfollowed := true, recurses := true, named := ["podium/digest.start", "podium/digest.numbers"], apart := false, laid := [("podium/digest.start", laid_podium_digest_start), ("podium/digest.numbers", laid_podium_digest_numbers)] }
def ChainEqualSaid : Prop := chainEqualRow.holds Tryd.pinned (OpenSpec.ofChange chainEqualSpec)

/-- ITS FALSE NEIGHBOUR: 'it returns false'. Refute it at one input. -/
def chainEqualWrong : ChangeSpec := { name := "chainEqual", fn := fun _ => fun
  | [d1, d2] => { results := [.lit (.bool false)], args := [d1, d2] }
  | _ => none }
def ChainEqualWrongFalsely : Prop := chainEqualRow.holds Tryd.pinned (OpenSpec.ofChange chainEqualWrong)

/-- 'podiumlaw08.ChainChanged': WHATEVER THE INPUT: true; the input reads as it did. -/
def chainChangedSpec : ChangeSpec := { name := "chainChanged", fn := fun _ => fun
  | [d1, d2, d3] => { results := [.lit (.bool true)], args := [d1, d2, d3] }
  | _ => none }
def chainChangedRow : OpenClaim := { program := "ytibnikokgbfcdaadoor", sum := "8df0e82e22bf863568fac9773f3d95c25f1f8bd8abc1660a728f3e8a96dda544", func := "podium/podiumlaw08.ChainChanged", spec := "chainChanged", unfollowed := true, recurses := true, named := ["podium/digest.start", "podium/digest.numbers"], apart := false, laid := [("podium/digest.start", laid_podium_digest_start), ("podium/digest.numbers", laid_podium_digest_numbers)] }
def ChainChangedSaid : Prop := chainChangedRow.holds Tryd.pinned (OpenSpec.ofChange chainChangedSpec)

/-- ITS FALSE NEIGHBOUR: 'it returns false'. Refute it at one input. -/
def chainChangedWrong : ChangeSpec := { name := "chainChanged", fn := fun _ => fun
  | [d1, d2, d3] => { results := [.lit (.bool false)], args := [d1, d2, d3] }
  | _ => none }
def ChainChangedWrongFalsely : Prop := chainChangedRow.holds Tryd.pinned (OpenSpec.ofChange chainChangedWrong)

/-- 'podiumlaw08.ChainParts': WHATEVER THE INPUT: true; the input reads as it did. -/
def chainPartsSpec : ChangeSpec := { name := "chainParts", fn := fun _ => fun
  | [d1, d2] => { results := [.lit (.bool true)], args := [d1, d2] }
  | _ => none }
def chainPartsRow : OpenClaim := { program := "ytibnikokgbfcdaadoor", sum := "8df0e82e22bf863568fac9773f3d95c25f1f8bd8abc1660a728f3e8a96dda544", func := "podium/podiumlaw08.ChainParts", spec := "chainParts", unfollowed := true, recurses := true, named := ["podium/digest.start", "podium/digest.numbers"], apart := false, laid := [("podium/digest.start", laid_podium_digest_start), ("podium/digest.numbers", laid_podium_digest_numbers)] }
def ChainPartsSaid : Prop := chainPartsRow.holds Tryd.pinned (OpenSpec.ofChange chainPartsSpec)

/-- ITS FALSE NEIGHBOUR: 'it returns false'. Refute it at one input. -/
def chainPartsWrong : ChangeSpec := { name := "chainParts", fn := fun _ => fun
  | [d1, d2] => { results := [.lit (.bool false)], args := [d1, d2] }
  | _ => none }
def ChainPartsWrongFalsely : Prop := chainPartsRow.holds Tryd.pinned (OpenSpec.ofChange chainPartsWrong)

/-- 'podiumlaw31.BeaconSpec': WHATEVER THE INPUT: true; the input reads as it did. -/
def beaconSpecSpec : ChangeSpec := { name := "beaconSpec", fn := fun _ => fun
  | [d1, d2, d3, d4] => { results := [.lit (.bool true)], args := [d1, d2, d3, d4] }
  | _ => none }
def beaconSpecRow : OpenClaim := { program := "ytibnikokgbfcdaadoor", sum := "8df0e82e22bf863568fac9773f3d95c25f1f8bd8abc1660a728f3e8a96dda544", func := "podium/podiumlaw31.BeaconSpec", spec := "beaconSpec", unfollowed := true, recurses := true, named := ["podium/digest.start", "podium/digest.numbers"], apart := false, laid := [("podium/digest.start", laid_podium_digest_start), ("podium/digest.numbers", laid_podium_digest_numbers)] }
def BeaconSpecSaid : Prop := beaconSpecRow.holds Tryd.pinned (OpenSpec.ofChange beaconSpecSpec)

/-- ITS FALSE NEIGHBOUR: 'it returns false'. Refute it at one input. -/
def beaconSpecWrong : ChangeSpec := { name := "beaconSpec", fn := fun _ => fun
  | [d1, d2, d3, d4] => { results := [.lit (.bool false)], args := [d1, d2, d3, d4] }
  | _ => none }
def BeaconSpecWrongFalsely : Prop := beaconSpecRow.holds Tryd.pinned (OpenSpec.ofChange beaconSpecWrong)

/-- 'podiumlaw31.BeaconBitsSpec': WHATEVER THE INPUT: true; the input reads as it did. -/
def beaconBitsSpecSpec : ChangeSpec := { name := "beaconBitsSpec", fn := fun _ => fun
  | [d1, d2] => { results := [.lit (.bool true)], args := [d1, d2] }
  | _ => none }
def beaconBitsSpecRow : OpenClaim := { program := "ytibnikokgbfcdaadoor", sum := "8df0e82e22bf863568fac9773f3d95c25f1f8bd8abc1660a728f3e8a96dda544", func := "podium/podiumlaw31.BeaconBitsSpec", spec := "beaconBitsSpec", unfollowed := true, recurses := true, named := ["podium/digest.start", "podium/digest.numbers"], apart := false, laid := [("podium/digest.start", laid_podium_digest_start), ("podium/digest.numbers", laid_podium_digest_numbers)] }
def BeaconBitsSpecSaid : Prop := beaconBitsSpecRow.holds Tryd.pinned (OpenSpec.ofChange beaconBitsSpecSpec)

/-- ITS FALSE NEIGHBOUR: 'it returns false'. Refute it at one input. -/
def beaconBitsSpecWrong : ChangeSpec := { name := "beaconBitsSpec", fn := fun _ => fun
  | [d1, d2] => { results := [.lit (.bool false)], args := [d1, d2] }
  | _ => none }
def BeaconBitsSpecWrongFalsely : Prop := beaconBitsSpecRow.holds Tryd.pinned (OpenSpec.ofChange beaconBitsSpecWrong)

/-- 'podiumlaw31.BeaconMissing': WHATEVER THE INPUT: true; the input reads as it did. -/
def beaconMissingSpec : ChangeSpec := { name := "beaconMissing", fn := fun _ => fun
  | [d1, d2] => { results := [.lit (.bool true)], args := [d1, d2] }
  | _ => none }
def beaconMissingRow : OpenClaim := { program := "ytibnikokgbfcdaadoor", sum := "8df0e82e22bf863568fac9773f3d95c25f1f8bd8abc1660a728f3e8a96dda544", func := "podium/podiumlaw31.BeaconMissing", spec := "beaconMissing", unfollowed := true, recurses := true, named := ["podium/digest.start", "podium/digest.numbers"], apart := false, laid := [("podium/digest.start", laid_podium_digest_start), ("podium/digest.numbers", laid_podium_digest_numbers)] }
def BeaconMissingSaid : Prop := beaconMissingRow.holds Tryd.pinned (OpenSpec.ofChange beaconMissingSpec)

/-- ITS FALSE NEIGHBOUR: 'it returns false'. Refute it at one input. -/
def beaconMissingWrong : ChangeSpec := { name := "beaconMissing", fn := fun _ => fun
  | [d1, d2] => { results := [.lit (.bool false)], args := [d1, d2] }
  | _ => none }
def BeaconMissingWrongFalsely : Prop := beaconMissingRow.holds Tryd.pinned (OpenSpec.ofChange beaconMissingWrong)

/-- 'podiumlaw31.BeaconFixed': WHATEVER THE INPUT: true; the input reads as it did. -/
def beaconFixedSpec : ChangeSpec := { name := "beaconFixed", fn := fun _ => fun
  | [d1, d2, d3] => { results := [.lit (.bool true)], args := [d1, d2, d3] }
  | _ => none }
def beaconFixedRow : OpenClaim := { program := "ytibnikokgbfcdaadoor", sum := "8df0e82e22bf863568fac9773f3d95c25f1f8bd8abc1660a728f3e8a96dda544", func := "podium/podiumlaw31.BeaconFixed", spec := "beaconFixed", unfollowed := true, recurses := true, named := ["podium/digest.start", "podium/digest.numbers"], apart := false, laid := [("podium/digest.start", laid_podium_digest_start), ("podium/digest.numbers", laid_podium_digest_numbers)] }
def BeaconFixedSaid : Prop := beaconFixedRow.holds Tryd.pinned (OpenSpec.ofChange beaconFixedSpec)

/-- ITS FALSE NEIGHBOUR: 'it returns false'. Refute it at one input. -/
def beaconFixedWrong : ChangeSpec := { name := "beaconFixed", fn := fun _ => fun
  | [d1, d2, d3] => { results := [.lit (.bool false)], args := [d1, d2, d3] }
  | _ => none }
def BeaconFixedWrongFalsely : Prop := beaconFixedRow.holds Tryd.pinned (OpenSpec.ofChange beaconFixedWrong)

/-- 'podiumlaw31.BeaconOpened': WHATEVER THE INPUT: true; the input reads as it did. -/
def beaconOpenedSpec : ChangeSpec := { name := "beaconOpened", fn := fun _ => fun
  | [d1, d2] => { results := [.lit (.bool true)], args := [d1, d2] }
  | _ => none }
def beaconOpenedRow : OpenClaim := { program := "ytibnikokgbfcdaadoor", sum := "8df0e82e22bf863568fac9773f3d95c25f1f8bd8abc1660a728f3e8a96dda544", func := "podium/podiumlaw31.BeaconOpened", spec := "beaconOpened", unfollowed := true, recurses := true, named := ["podium/digest.start", "podium/digest.numbers"], apart := false, laid := [("podium/digest.start", laid_podium_digest_start), ("podium/digest.numbers", laid_podium_digest_numbers)] }
def BeaconOpenedSaid : Prop := beaconOpenedRow.holds Tryd.pinned (OpenSpec.ofChange beaconOpenedSpec)

/-- ITS FALSE NEIGHBOUR: 'it returns false'. Refute it at one input. -/
def beaconOpenedWrong : ChangeSpec := { name := "beaconOpened", fn := fun _ => fun
  | [d1, d2] => { results := [.lit (.bool false)], args := [d1, d2] }
  | _ => none }
def BeaconOpenedWrongFalsely : Prop := beaconOpenedRow.holds Tryd.pinned (OpenSpec.ofChange beaconOpenedWrong)

/-- 'podiumlaw31.BeaconIdle': WHATEVER THE INPUT: true; the input reads as it did. -/
def beaconIdleSpec : ChangeSpec := { name := "beaconIdle", fn := fun _ => fun
  | [d1, d2] => { results := [.lit (.bool true)], args := [d1, d2] }
  | _ => none }
def beaconIdleRow : OpenClaim := { program := "ytibnikokgbfcdaadoor", sum := "8df0e82e22bf863568fac9773f3d95c25f1f8bd8abc1660a728f3e8a96dda544", func := "podium/podiumlaw31.BeaconIdle", spec := "beaconIdle", unfollowed := true, recurses := true, named := ["podium/digest.start", "podium/digest.numbers"], apart := false, laid := [("podium/digest.start", laid_podium_digest_start), ("podium/digest.numbers", laid_podium_digest_numbers)] }
def BeaconIdleSaid : Prop := beaconIdleRow.holds Tryd.pinned (OpenSpec.ofChange beaconIdleSpec)

/-- ITS FALSE NEIGHBOUR: 'it returns false'. Refute it at one input. -/
def beaconIdleWrong : ChangeSpec := { name := "beaconIdle", fn := fun _ => fun
  | [d1, d2] => { results := [.lit (.bool false)], args := [d1, d2] }
  | _ => none }
def BeaconIdleWrongFalsely : Prop := beaconIdleRow.holds Tryd.pinned (OpenSpec.ofChange beaconIdleWrong)

/-- 'podiumlaw31.BeaconFirst': WHATEVER THE INPUT: true; the input reads as it did. -/
def beaconFirstSpec : ChangeSpec := { name := "beaconFirst", fn := fun _ => fun
  | [d1, d2, d3] => { results := [.lit (.bool true)], args := [d1, d2, d3] }
  | _ => none }
def beaconFirstRow : OpenClaim := { program := "ytibnikokgbfcdaadoor", sum := "8df0e82e22bf863568fac9773f3d95c25f1f8bd8abc1660a728f3e8a96dda544", func := "podium/podiumlaw31.BeaconFirst", spec := "beaconFirst", unfollowed := true, recurses := true, named := ["podium/digest.start", "podium/digest.numbers"], apart := false, laid := [("podium/digest.start", laid_podium_digest_start), ("podium/digest.numbers", laid_podium_digest_numbers)] }
def BeaconFirstSaid : Prop := beaconFirstRow.holds Tryd.pinned (OpenSpec.ofChange beaconFirstSpec)

/-- ITS FALSE NEIGHBOUR: 'it returns false'. Refute it at one input. -/
def beaconFirstWrong : ChangeSpec := { name := "beaconFirst", fn := fun _ => fun
  | [d1, d2, d3] => { results := [.lit (.bool false)], args := [d1, d2, d3] }
  | _ => none }
def BeaconFirstWrongFalsely : Prop := beaconFirstRow.holds Tryd.pinned (OpenSpec.ofChange beaconFirstWrong)

/-- 'podiumlaw55.SampleSpec': WHATEVER THE INPUT: true; the input reads as it did. -/
def sampleSpecSpec : ChangeSpec := { name := "sampleSpec", fn := fun _ => fun
  | [d1, d2, d3] => { results := [.lit (.bool true)], args := [d1, d2, d3] }
  | _ => none }
def sampleSpecRow : OpenClaim := { program := "ytibnikokgbfcdaadoor", sum := "8df0e82e22bf863568fac9773f3d95c25f1f8bd8abc1660a728f3e8a96dda544", func := "podium/podiumlaw55.SampleSpec", spec := "sampleSpec", unfollowed := true, recurses := true, named := ["podium/digest.start", "podium/digest.numbers"], apart := false, laid := [("podium/digest.start", laid_podium_digest_start), ("podium/digest.numbers", laid_podium_digest_numbers)] }
def SampleSpecSaid : Prop := sampleSpecRow.holds Tryd.pinned (OpenSpec.ofChange sampleSpecSpec)

/-- ITS FALSE NEIGHBOUR: 'it returns false'. Refute it at one input. -/
def sampleSpecWrong : ChangeSpec := { name := "sampleSpec", fn := fun _ => fun
  | [d1, d2, d3] => { results := [.lit (.bool false)], args := [d1, d2, d3] }
  | _ => none }
def SampleSpecWrongFalsely : Prop := sampleSpecRow.holds Tryd.pinned (OpenSpec.ofChange sampleSpecWrong)

/-- 'podiumlaw55.SampleStrataSpec': WHATEVER THE INPUT: true; the input reads as it did. -/
def sampleStrataSpecSpec : ChangeSpec := { name := "sampleStrataSpec", fn := fun _ => fun
  | [d1, d2, d3] => { results := [.lit (.bool true)], args := [d1, d2, d3] }
  | _ => none }
def sampleStrataSpecRow : OpenClaim := { program := "ytibnikokgbfcdaadoor", sum := "8df0e82e22bf863568fac9773f3d95c25f1f8bd8abc1660a728f3e8a96dda544", func := "podium/podiumlaw55.SampleStrataSpec", spec := "sampleStrataSpec", unfollowed := true, recurses := true, named := ["podium/digest.start", "podium/digest.numbers"], apart := false, laid := [("podium/digest.start", laid_podium_digest_start), ("podium/digest.numbers", laid_podium_digest_numbers)] }
def SampleStrataSpecSaid : Prop := sampleStrataSpecRow.holds Tryd.pinned (OpenSpec.ofChange sampleStrataSpecSpec)

/-- ITS FALSE NEIGHBOUR: 'it returns false'. Refute it at one input. -/
def sampleStrataSpecWrong : ChangeSpec := { name := "sampleStrataSpec", fn := fun _ => fun
  | [d1, d2, d3] => { results := [.lit (.bool false)], args := [d1, d2, d3] }
  | _ => none }
def SampleStrataSpecWrongFalsely : Prop := sampleStrataSpecRow.holds Tryd.pinned (OpenSpec.ofChange sampleStrataSpecWrong)

/-- 'podiumlaw55.SampleEven': WHATEVER THE INPUT: true; the input reads as it did. -/
def sampleEvenSpec : ChangeSpec := { name := "sampleEven", fn := fun _ => fun
  | [d1, d2, d3, d4] => { results := [.lit (.bool true)], args := [d1, d2, d3, d4] }
  | _ => none }
def sampleEvenRow : OpenClaim := { program := "ytibnikokgbfcdaadoor", sum := "8df0e82e22bf863568fac9773f3d95c25f1f8bd8abc1660a728f3e8a96dda544", func := "podium/podiumlaw55.SampleEven", spec := "sampleEven", unfollowed := true, recurses := true, named := ["podium/digest.start", "podium/digest.numbers"], apart := false, laid := [("podium/digest.start", laid_podium_digest_start), ("podium/digest.numbers", laid_podium_digest_numbers)] }
def SampleEvenSaid : Prop := sampleEvenRow.holds Tryd.pinned (OpenSpec.ofChange sampleEvenSpec)

/-- ITS FALSE NEIGHBOUR: 'it returns false'. Refute it at one input. -/
def sampleEvenWrong : ChangeSpec := { name := "sampleEven", fn := fun _ => fun
  | [d1, d2, d3, d4] => { results := [.lit (.bool false)], args := [d1, d2, d3, d4] }
  | _ => none }
def SampleEvenWrongFalsely : Prop := sampleEvenRow.holds Tryd.pinned (OpenSpec.ofChange sampleEvenWrong)

/-- 'podiumlaw55.SampleFirst': WHATEVER THE INPUT: true; the input reads as it did. -/
def sampleFirstSpec : ChangeSpec := { name := "sampleFirst", fn := fun _ => fun
  | [d1, d2, d3, d4] => { results := [.lit (.bool true)], args := [d1, d2, d3, d4] }
  | _ => none }
def sampleFirstRow : OpenClaim := { program := "ytibnikokgbfcdaadoor", sum := "8df0e82e22bf863568fac9773f3d95c25f1f8bd8abc1660a728f3e8a96dda544", func := "podium/podiumlaw55.SampleFirst", spec := "sampleFirst", unfollowed := true, recurses := true, named := ["podium/digest.start", "podium/digest.numbers"], apart := false, laid := [("podium/digest.start", laid_podium_digest_start), ("podium/digest.numbers", laid_podium_digest_numbers)] }
def SampleFirstSaid : Prop := sampleFirstRow.holds Tryd.pinned (OpenSpec.ofChange sampleFirstSpec)

/-- ITS FALSE NEIGHBOUR: 'it returns false'. Refute it at one input. -/
def sampleFirstWrong : ChangeSpec := { name := "sampleFirst", fn := fun _ => fun
  | [d1, d2, d3, d4] => { results := [.lit (.bool false)], args := [d1, d2, d3, d4] }
  | _ => none }
def SampleFirstWrongFalsely : Prop := sampleFirstRow.holds Tryd.pinned (OpenSpec.ofChange sampleFirstWrong)

/-- 'podiumlaw55.SampleParts': WHATEVER THE INPUT: true; the input reads as it did. -/
def samplePartsSpec : ChangeSpec := { name := "sampleParts", fn := fun _ => fun
  | [d1, d2, d3, d4, d5, d6] => { results := [.lit (.bool true)], args := [d1, d2, d3, d4, d5, d6] }
  | _ => none }
def samplePartsRow : OpenClaim := { program := "ytibnikokgbfcdaadoor", sum := "8df0e82e22bf863568fac9773f3d95c25f1f8bd8abc1660a728f3e8a96dda544", func := "podium/podiumlaw55.SampleParts", spec := "sampleParts", unfollowed := true, recurses := true, named := ["podium/digest.start", "podium/digest.numbers"], apart := false, laid := [("podium/digest.start", laid_podium_digest_start), ("podium/digest.numbers", laid_podium_digest_numbers)] }
def SamplePartsSaid : Prop := samplePartsRow.holds Tryd.pinned (OpenSpec.ofChange samplePartsSpec)

/-- ITS FALSE NEIGHBOUR: 'it returns false'. Refute it at one input. -/
def samplePartsWrong : ChangeSpec := { name := "sampleParts", fn := fun _ => fun
  | [d1, d2, d3, d4, d5, d6] => { results := [.lit (.bool false)], args := [d1, d2, d3, d4, d5, d6] }
  | _ => none }
def SamplePartsWrongFalsely : Prop := samplePartsRow.holds Tryd.pinned (OpenSpec.ofChange samplePartsWrong)

/- THE SECOND FORM. 'bulk': how many values and letters a reading holds, each counted each time it is reached (what is shared counts as often as it is met; a slice's spare places count too). A statement '..UptoSaid' is the law's where the arguments, and the package variables that the reading takes, are together of bulk at most 1048576: NARROWER than '..Said'. Prove '..Said' where nothing that the law and all that it calls make is longer than what came in: it says more and counts as full. Else prove '..UptoSaid'. A law counts once. -/
mutual
def uptoBulk {H : Type} : DataW H → Nat
  | .lit (.string bytes) => bytes.length + 1
  | .lit _ => 1
  | .nil => 1
  | .ptr d => uptoBulk d + 1
  | .slice elems spare => uptoBulkAll elems + uptoBulkAll spare + 1
  | .agg parts => uptoBulkAll parts + 1
  | .iface _ d => uptoBulk d + 1
  | .map entries => uptoBulkEntries entries + 1
  | .held _ => 1
def uptoBulkAll {H : Type} : List (DataW H) → Nat
  | [] => 0
  | d :: r => uptoBulk d + uptoBulkAll r
def uptoBulkEntries {H : Type} : List (Lit × DataW H) → Nat
  | [] => 0
  | x :: r => uptoBulkEntry x + uptoBulkEntries r
def uptoBulkEntry {H : Type} : Lit × DataW H → Nat
  | (.string bytes, d) => bytes.length + uptoBulk d + 1
  | (_, d) => uptoBulk d + 1
 end
def uptoSmall : (H : Type) → List (DataW H) → Bool := fun _ ds => decide (uptoBulkAll ds ≤ 1048576)
def OpenSpec.upto (s : _root_.Go.ChangeSpec) : _root_.Go.OpenSpec := { _root_.Go.OpenSpec.ofChange s with cond := some uptoSmall }

/-- 'podiumlaw32.DrawSpec', WHERE WHAT IT READS IS OF BULK AT MOST 1048576: true; the input reads as it did. -/
def drawSpecUptoRow : OpenClaim := { program := "ytibnikokgbfcdaadoor", sum := "8df0e82e22bf863568fac9773f3d95c25f1f8bd8abc1660a728f3e8a96dda544", func := "podium/podiumlaw32.DrawSpec", spec := "drawSpec", unfollowed := true, recurses := true, named := ["podium/digest.start", "podium/digest.numbers"], apart := false, laid := [("podium/digest.start", laid_podium_digest_start), ("podium/digest.numbers", laid_podium_digest_numbers)], narrowed := true }
def DrawSpecUptoSaid : Prop := drawSpecUptoRow.holds Tryd.pinned (OpenSpec.upto drawSpecSpec)

/-- 'podiumlaw32.DrawOrderSpec', WHERE WHAT IT READS IS OF BULK AT MOST 1048576: true; the input reads as it did. -/
def drawOrderSpecUptoRow : OpenClaim := { program := "ytibnikokgbfcdaadoor", sum := "8df0e82e22bf863568fac9773f3d95c25f1f8bd8abc1660a728f3e8a96dda544", func := "podium/podiumlaw32.DrawOrderSpec", spec := "drawOrderSpec", unfollowed := true, recurses := true, named := ["podium/digest.start", "podium/digest.numbers"], apart := false, laid := [("podium/digest.start", laid_podium_digest_start), ("podium/digest.numbers", laid_podium_digest_numbers)], narrowed := true }
def DrawOrderSpecUptoSaid : Prop := drawOrderSpecUptoRow.holds Tryd.pinned (OpenSpec.upto drawOrderSpecSpec)

/-- 'podiumlaw32.DrawEven', WHERE WHAT IT READS IS OF BULK AT MOST 1048576: true; the input reads as it did. -/
def drawEvenUptoRow : OpenClaim := { program := "ytibnikokgbfcdaadoor", sum := "8df0e82e22bf863568fac9773f3d95c25f1f8bd8abc1660a728f3e8a96dda544", func := "podium/podiumlaw32.DrawEven", spec := "drawEven", unfollowed := true, recurses := true, named := ["podium/digest.start", "podium/digest.numbers"], apart := false, laid := [("podium/digest.start", laid_podium_digest_start), ("podium/digest.numbers", laid_podium_digest_numbers)], narrowed := true }
def DrawEvenUptoSaid : Prop := drawEvenUptoRow.holds Tryd.pinned (OpenSpec.upto drawEvenSpec)

/-- 'podiumlaw32.DrawPerm', WHERE WHAT IT READS IS OF BULK AT MOST 1048576: true; the input reads as it did. -/
def drawPermUptoRow : OpenClaim := { program := "ytibnikokgbfcdaadoor", sum := "8df0e82e22bf863568fac9773f3d95c25f1f8bd8abc1660a728f3e8a96dda544", func := "podium/podiumlaw32.DrawPerm", spec := "drawPerm", unfollowed := true, recurses := true, named := ["podium/digest.start", "podium/digest.numbers"], apart := false, laid := [("podium/digest.start", laid_podium_digest_start), ("podium/digest.numbers", laid_podium_digest_numbers)], narrowed := true }
def DrawPermUptoSaid : Prop := drawPermUptoRow.holds Tryd.pinned (OpenSpec.upto drawPermSpec)

/-- 'podiumlaw32.DrawReached', WHERE WHAT IT READS IS OF BULK AT MOST 1048576: true; the input reads as it did. -/
def drawReachedUptoRow : OpenClaim := { program := "ytibnikokgbfcdaadoor", sum := "8df0e82e22bf863568fac9773f3d95c25f1f8bd8abc1660a728f3e8a96dda544", func := "podium/podiumlaw32.DrawReached", spec := "drawReached", unfollowed := true, recurses := true, named := ["podium/digest.start", "podium/digest.numbers"], apart := false, laid := [("podium/digest.start", laid_podium_digest_start), ("podium/digest.numbers", laid_podium_digest_numbers)], narrowed := true }
def DrawReachedUptoSaid : Prop := drawReachedUptoRow.holds Tryd.pinned (OpenSpec.upto drawReachedSpec)

/-- 'podiumlaw32.DrawWords', WHERE WHAT IT READS IS OF BULK AT MOST 1048576: true; the input reads as it did. -/
def drawWordsUptoRow : OpenClaim := { program := "ytibnikokgbfcdaadoor", sum := "8df0e82e22bf863568fac9773f3d95c25f1f8bd8abc1660a728f3e8a96dda544", func := "podium/podiumlaw32.DrawWords", spec := "drawWords", unfollowed := true, recurses := true, named := ["podium/digest.start", "podium/digest.numbers"], apart := false, laid := [("podium/digest.start", laid_podium_digest_start), ("podium/digest.numbers", laid_podium_digest_numbers)], narrowed := true }
def DrawWordsUptoSaid : Prop := drawWordsUptoRow.holds Tryd.pinned (OpenSpec.upto drawWordsSpec)

/-- 'podiumlaw08.ChainAddSpec', WHERE WHAT IT READS IS OF BULK AT MOST 1048576: true; the input reads as it did. -/
def chainAddSpecUptoRow : OpenClaim := { program := "ytibnikokgbfcdaadoor", sum := "8df0e82e22bf863568fac9773f3d95c25f1f8bd8abc1660a728f3e8a96dda544", func := "podium/podiumlaw08.ChainAddSpec", spec := "chainAddSpec", unfollowed := true, recurses := true, named := ["podium/digest.start", "podium/digest.numbers"], apart := false, laid := [("podium/digest.start", laid_podium_digest_start), ("podium/digest.numbers", laid_podium_digest_numbers)], narrowed := true }
def ChainAddSpecUptoSaid : Prop := chainAddSpecUptoRow.holds Tryd.pinned (OpenSpec.upto chainAddSpecSpec)

/-- 'podiumlaw08.ChainBuilt', WHERE WHAT IT READS IS OF BULK AT MOST 1048576: true; the input reads as it did. -/
def chainBuiltUptoRow : OpenClaim := { program := "ytibnikokgbfcdaadoor", sum := "8df0e82e22bf863568fac9773f3d95c25f1f8bd8abc1660a728f3e8a96dda544", func := "podium/podiumlaw08.ChainBuilt", spec := "chainBuilt", unfollowed := true, recurses := true, named := ["podium/digest.start", "podium/digest.numbers"], apart := false, laid := [("podium/digest.start", laid_podium_digest_start), ("podium/digest.numbers", laid_podium_digest_numbers)], narrowed := true }
def ChainBuiltUptoSaid : Prop := chainBuiltUptoRow.holds Tryd.pinned (OpenSpec.upto chainBuiltSpec)

/-- 'podiumlaw08.ChainEqual', WHERE WHAT IT READS IS OF BULK AT MOST 1048576: true; the input reads as it did. -/
def chainEqualUptoRow : OpenClaim := { program := "ytibnikokgbfcdaadoor", sum := "8df0e82e22bf863568fac9773f3d95c25f1f8bd8abc1660a728f3e8a96dda544", func := "podium/podiumlaw08.ChainEqual", spec := "chainEqual", unfollowed := true, recurses := true, named := ["podium/digest.start", "podium/digest.numbers"], apart := false, laid := [("podium/digest.start", laid_podium_digest_start), ("podium/digest.numbers", laid_podium_digest_numbers)], narrowed := true }
def ChainEqualUptoSaid : Prop := chainEqualUptoRow.holds Tryd.pinned (OpenSpec.upto chainEqualSpec)

/-- 'podiumlaw08.ChainChanged', WHERE WHAT IT READS IS OF BULK AT MOST 1048576: true; the input reads as it did. -/
def chainChangedUptoRow : OpenClaim := { program := "ytibnikokgbfcdaadoor", sum := "8df0e82e22bf863568fac9773f3d95c25f1f8bd8abc1660a728f3e8a96dda544", func := "podium/podiumlaw08.ChainChanged", spec := "chainChanged", unfollowed := true, recurses := true, named := ["podium/digest.start", "podium/digest.numbers"], apart := false, laid := [("podium/digest.start", laid_podium_digest_start), ("podium/digest.numbers", laid_podium_digest_numbers)], narrowed := true }
def ChainChangedUptoSaid : Prop := chainChangedUptoRow.holds Tryd.pinned (OpenSpec.upto chainChangedSpec)

/-- 'podiumlaw08.ChainParts', WHERE WHAT IT READS IS OF BULK AT MOST 1048576: true; the input reads as it did. -/
def chainPartsUptoRow : OpenClaim := { program := "ytibnikokgbfcdaadoor", sum := "8df0e82e22bf863568fac9773f3d95c25f1f8bd8abc1660a728f3e8a96dda544", func := "podium/podiumlaw08.ChainParts", spec := "chainParts", unfollowed := true, recurses := true, named := ["podium/digest.start", "podium/digest.numbers"], apart := false, laid := [("podium/digest.start", laid_podium_digest_start), ("podium/digest.numbers", laid_podium_digest_numbers)], narrowed := true }
def ChainPartsUptoSaid : Prop := chainPartsUptoRow.holds Tryd.pinned (OpenSpec.upto chainPartsSpec)

/-- 'podiumlaw31.BeaconSpec', WHERE WHAT IT READS IS OF BULK AT MOST 1048576: true; the input reads as it did. -/
def beaconSpecUptoRow : OpenClaim := { program := "ytibnikokgbfcdaadoor", sum := "8df0e82e22bf863568fac9773f3d95c25f1f8bd8abc1660a728f3e8a96dda544", func := "podium/podiumlaw31.BeaconSpec", spec := "beaconSpec", unfollowed := true, recurses := true, named := ["podium/digest.start", "podium/digest.numbers"], apart := false, laid := [("podium/digest.start", laid_podium_digest_start), ("podium/digest.numbers", laid_podium_digest_numbers)], narrowed := true }
def BeaconSpecUptoSaid : Prop := beaconSpecUptoRow.holds Tryd.pinned (OpenSpec.upto beaconSpecSpec)

/-- 'podiumlaw31.BeaconBitsSpec', WHERE WHAT IT READS IS OF BULK AT MOST 1048576: true; the input reads as it did. -/
def beaconBitsSpecUptoRow : OpenClaim := { program := "ytibnikokgbfcdaadoor", sum := "8df0e82e22bf863568fac9773f3d95c25f1f8bd8abc1660a728f3e8a96dda544", func := "podium/podiumlaw31.BeaconBitsSpec", spec := "beaconBitsSpec", unfollowed := true, recurses := true, named := ["podium/digest.start", "podium/digest.numbers"], apart := false, laid := [("podium/digest.start", laid_podium_digest_start), ("podium/digest.numbers", laid_podium_digest_numbers)], narrowed := true }
def BeaconBitsSpecUptoSaid : Prop := beaconBitsSpecUptoRow.holds Tryd.pinned (OpenSpec.upto beaconBitsSpecSpec)

/-- 'podiumlaw31.BeaconMissing', WHERE WHAT IT READS IS OF BULK AT MOST 1048576: true; the input reads as it did. -/
def beaconMissingUptoRow : OpenClaim := { program := "ytibnikokgbfcdaadoor", sum := "8df0e82e22bf863568fac9773f3d95c25f1f8bd8abc1660a728f3e8a96dda544", func := "podium/podiumlaw31.BeaconMissing", spec := "beaconMissing", unfollowed := true, recurses := true, named := ["podium/digest.start", "podium/digest.numbers"], apart := false, laid := [("podium/digest.start", laid_podium_digest_start), ("podium/digest.numbers", laid_podium_digest_numbers)], narrowed := true }
def BeaconMissingUptoSaid : Prop := beaconMissingUptoRow.holds Tryd.pinned (OpenSpec.upto beaconMissingSpec)

/-- 'podiumlaw31.BeaconFixed', WHERE WHAT IT READS IS OF BULK AT MOST 1048576: true; the input reads as it did. -/
def beaconFixedUptoRow : OpenClaim := { program := "ytibnikokgbfcdaadoor", sum := "8df0e82e22bf863568fac9773f3d95c25f1f8bd8abc1660a728f3e8a96dda544", func := "podium/podiumlaw31.BeaconFixed", spec := "beaconFixed", unfollowed := true, recurses := true, named := ["podium/digest.start", "podium/digest.numbers"], apart := false, laid := [("podium/digest.start", laid_podium_digest_start), ("podium/digest.numbers", laid_podium_digest_numbers)], narrowed := true }
def BeaconFixedUptoSaid : Prop := beaconFixedUptoRow.holds Tryd.pinned (OpenSpec.upto beaconFixedSpec)

/-- 'podiumlaw31.BeaconOpened', WHERE WHAT IT READS IS OF BULK AT MOST 1048576: true; the input reads as it did. -/
def beaconOpenedUptoRow : OpenClaim := { program := "ytibnikokgbfcdaadoor", sum := "8df0e82e22bf863568fac9773f3d95c25f1f8bd8abc1660a728f3e8a96dda544", func := "podium/podiumlaw31.BeaconOpened", spec := "beaconOpened", unfollowed := true, recurses := true, named := ["podium/digest.start", "podium/digest.numbers"], apart := false, laid := [("podium/digest.start", laid_podium_digest_start), ("podium/digest.numbers", laid_podium_digest_numbers)], narrowed := true }
def BeaconOpenedUptoSaid : Prop := beaconOpenedUptoRow.holds Tryd.pinned (OpenSpec.upto beaconOpenedSpec)

/-- 'podiumlaw31.BeaconIdle', WHERE WHAT IT READS IS OF BULK AT MOST 1048576: true; the input reads as it did. -/
def beaconIdleUptoRow : OpenClaim := { program := "ytibnikokgbfcdaadoor", sum := "8df0e82e22bf863568fac9773f3d95c25f1f8bd8abc1660a728f3e8a96dda544", func := "podium/podiumlaw31.BeaconIdle", spec := "beaconIdle", unfollowed := true, recurses := true, named := ["podium/digest.start", "podium/digest.numbers"], apart := false, laid := [("podium/digest.start", laid_podium_digest_start), ("podium/digest.numbers", laid_podium_digest_numbers)], narrowed := true }
def BeaconIdleUptoSaid : Prop := beaconIdleUptoRow.holds Tryd.pinned (OpenSpec.upto beaconIdleSpec)

/-- 'podiumlaw31.BeaconFirst', WHERE WHAT IT READS IS OF BULK AT MOST 1048576: true; the input reads as it did. -/
def beaconFirstUptoRow : OpenClaim := { program := "ytibnikokgbfcdaadoor", sum := "8df0e82e22bf863568fac9773f3d95c25f1f8bd8abc1660a728f3e8a96dda544", func := "podium/podiumlaw31.BeaconFirst", spec := "beaconFirst", unfollowed := true, recurses := true, named := ["podium/digest.start", "podium/digest.numbers"], apart := false, laid := [("podium/digest.start", laid_podium_digest_start), ("podium/digest.numbers", laid_podium_digest_numbers)], narrowed := true }
def BeaconFirstUptoSaid : Prop := beaconFirstUptoRow.holds Tryd.pinned (OpenSpec.upto beaconFirstSpec)

/-- 'podiumlaw55.SampleSpec', WHERE WHAT IT READS IS OF BULK AT MOST 1048576: true; the input reads as it did. -/
def sampleSpecUptoRow : OpenClaim := { program := "ytibnikokgbfcdaadoor", sum := "8df0e82e22bf863568fac9773f3d95c25f1f8bd8abc1660a728f3e8a96dda544", func := "podium/podiumlaw55.SampleSpec", spec := "sampleSpec", unfollowed := true, recurses := true, named := ["podium/digest.start", "podium/digest.numbers"], apart := false, laid := [("podium/digest.start", laid_podium_digest_start), ("podium/digest.numbers", laid_podium_digest_numbers)], narrowed := true }
def SampleSpecUptoSaid : Prop := sampleSpecUptoRow.holds Tryd.pinned (OpenSpec.upto sampleSpecSpec)

/-- 'podiumlaw55.SampleStrataSpec', WHERE WHAT IT READS IS OF BULK AT MOST 1048576: true; the input reads as it did. -/
def sampleStrataSpecUptoRow : OpenClaim := { program := "ytibnikokgbfcdaadoor", sum := "8df0e82e22bf863568fac9773f3d95c25f1f8bd8abc1660a728f3e8a96dda544", func := "podium/podiumlaw55.SampleStrataSpec", spec := "sampleStrataSpec", unfollowed := true, recurses := true, named := ["podium/digest.start", "podium/digest.numbers"], apart := false, laid := [("podium/digest.start", laid_podium_digest_start), ("podium/digest.numbers", laid_podium_digest_numbers)], narrowed := true }
def SampleStrataSpecUptoSaid : Prop := sampleStrataSpecUptoRow.holds Tryd.pinned (OpenSpec.upto sampleStrataSpecSpec)

/-- 'podiumlaw55.SampleEven', WHERE WHAT IT READS IS OF BULK AT MOST 1048576: true; the input reads as it did. -/
def sampleEvenUptoRow : OpenClaim := { program := "ytibnikokgbfcdaadoor", sum := "8df0e82e22bf863568fac9773f3d95c25f1f8bd8abc1660a728f3e8a96dda544", func := "podium/podiumlaw55.SampleEven", spec := "sampleEven", unfollowed := true, recurses := true, named := ["podium/digest.start", "podium/digest.numbers"], apart := false, laid := [("podium/digest.start", laid_podium_digest_start), ("podium/digest.numbers", laid_podium_digest_numbers)], narrowed := true }
def SampleEvenUptoSaid : Prop := sampleEvenUptoRow.holds Tryd.pinned (OpenSpec.upto sampleEvenSpec)

/-- 'podiumlaw55.SampleFirst', WHERE WHAT IT READS IS OF BULK AT MOST 1048576: true; the input reads as it did. -/
def sampleFirstUptoRow : OpenClaim := { program := "ytibnikokgbfcdaadoor", sum := "8df0e82e22bf863568fac9773f3d95c25f1f8bd8abc1660a728f3e8a96dda544", func := "podium/podiumlaw55.SampleFirst", spec := "sampleFirst", unfollowed := true, recurses := true, named := ["podium/digest.start", "podium/digest.numbers"], apart := false, laid := [("podium/digest.start", laid_podium_digest_start), ("podium/digest.numbers", laid_podium_digest_numbers)], narrowed := true }
def SampleFirstUptoSaid : Prop := sampleFirstUptoRow.holds Tryd.pinned (OpenSpec.upto sampleFirstSpec)

/-- 'podiumlaw55.SampleParts', WHERE WHAT IT READS IS OF BULK AT MOST 1048576: true; the input reads as it did. -/
def samplePartsUptoRow : OpenClaim := { program := "ytibnikokgbfcdaadoor", sum := "8df0e82e22bf863568fac9773f3d95c25f1f8bd8abc1660a728f3e8a96dda544", func := "podium/podiumlaw55.SampleParts", spec := "sampleParts", unfollowed := true, recurses := true, named := ["podium/digest.start", "podium/digest.numbers"], apart := false, laid := [("podium/digest.start", laid_podium_digest_start), ("podium/digest.numbers", laid_podium_digest_numbers)], narrowed := true }
def SamplePartsUptoSaid : Prop := samplePartsUptoRow.holds Tryd.pinned (OpenSpec.upto samplePartsSpec)

end Rows
end Go.Proofs.YtibnikokgbfcdaaDoor

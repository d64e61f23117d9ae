/-
  DERIVED. GIVEN WITH THE SEED: THE CARDS: each row of YtibnikokgbfcdaaDoorRows.lean that lists a variable, with what it lists TIED to the program's text (the seventh form; the later family's looks); each row that meets fmt, with fmt's text TOLD by the authors' own Lean function (tested against real Go, not proved from fmt's source: count such statements apart). THE CARD IS WHAT COUNTS. Prove the row's statement (the work); the ties are given (YtibnikokgbfcdaaDoorTie.lean); close each card by the builder's one call (the guide's Derived/Test/ToyasCard.lean, 'card_holds'). Laid BY PROGRAM, IN A SANDBOX (cutbox-door.mjs). By AI agents, Wed Nov 11 2026. No macro, syntax, notation, axiom, sorry.
-/
import Derived.Test.YtibnikokgbfcdaaDoorRows
import GoSem.ClaimSeven
namespace Go.Proofs.YtibnikokgbfcdaaDoor
namespace Rows

/-- THE TIED CARD OF 'podiumlaw32.DrawSpec'. -/
def drawSpecCard : Claim7 := { stood := { row := drawSpecRow, standIns := [], harness := (true, "591f48f8f32df62d838cb6c93014356201156b4ba75b977cec149529f8af8666"), looks := true }, kinds := [], alts := [], laidByText := true, laidKinds := [.data, .data], laidTests := true, laidLooks := .later }
def DrawSpecCardSaid : Prop := Claim7.holds Tryd.pinned (.plain (OpenSpec.ofChange drawSpecSpec)) drawSpecCard

/-- THE TIED CARD OF 'podiumlaw32.DrawOrderSpec'. -/
def drawOrderSpecCard : Claim7 := { stood := { row := drawOrderSpecRow, standIns := [], harness := (true, "591f48f8f32df62d838cb6c93014356201156b4ba75b977cec149529f8af8666"), looks := true }, kinds := [], alts := [], laidByText := true, laidKinds := [.data, .data], laidTests := true, laidLooks := .later }
def DrawOrderSpecCardSaid : Prop := Claim7.holds Tryd.pinned (.plain (OpenSpec.ofChange drawOrderSpecSpec)) drawOrderSpecCard

/-- THE TIED CARD OF 'podiumlaw32.DrawEven'. -/
def drawEvenCard : Claim7 := { stood := { row := drawEvenRow, standIns := [], harness := (true, "591f48f8f32df62d838cb6c93014356201156b4ba75b977cec149529f8af8666"), looks := true }, kinds := [], alts := [], laidByText := true, laidKinds := [.data, .data], laidTests := true, laidLooks := .later }
def DrawEvenCardSaid : Prop := Claim7.holds Tryd.pinned (.plain (OpenSpec.ofChange drawEvenSpec)) drawEvenCard

/-- THE TIED CARD OF 'podiumlaw32.DrawPerm'. -/
def drawPermCard : Claim7 := { stood := { row := drawPermRow, standIns := [], harness := (true, "591f48f8f32df62d838cb6c93014356201156b4ba75b977cec149529f8af8666"), looks := true }, kinds := [], alts := [], laidByText := true, laidKinds := [.data, .data], laidTests := true, laidLooks := .later }
def DrawPermCardSaid : Prop := Claim7.holds Tryd.pinned (.plain (OpenSpec.ofChange drawPermSpec)) drawPermCard

/-- THE TIED CARD OF 'podiumlaw32.DrawReached'. -/
def drawReachedCard : Claim7 := { stood := { row := drawReachedRow, standIns := [], harness := (true, "591f48f8f32df62d838cb6c93014356201156b4ba75b977cec149529f8af8666"), looks := true }, kinds := [], alts := [], laidByText := true, laidKinds := [.data, .data], laidTests := true, laidLooks := .later }
def DrawReachedCardSaid : Prop := Claim7.holds Tryd.pinned (.plain (OpenSpec.ofChange drawReachedSpec)) drawReachedCard

/-- THE TIED CARD OF 'podiumlaw32.DrawWords'. -/
def drawWordsCard : Claim7 := { stood := { row := drawWordsRow, standIns := [], harness := (true, "591f48f8f32df62d838cb6c93014356201156b4ba75b977cec149529f8af8666"), looks := true }, kinds := [], alts := [], laidByText := true, laidKinds := [.data, .data], laidTests := true, laidLooks := .later }
def DrawWordsCardSaid : Prop := Claim7.holds Tryd.pinned (.plain (OpenSpec.ofChange drawWordsSpec)) drawWordsCard

/-- THE TIED CARD OF 'podiumlaw08.ChainAddSpec'. -/
def chainAddSpecCard : Claim7 := { stood := { row := chainAddSpecRow, standIns := [], harness := (true, "591f48f8f32df62d838cb6c93014356201156b4ba75b977cec149529f8af8666"), looks := true }, kinds := [], alts := [], laidByText := true, laidKinds := [.data, .data], laidTests := true, laidLooks := .later }
def ChainAddSpecCardSaid : Prop := Claim7.holds Tryd.pinned (.plain (OpenSpec.ofChange chainAddSpecSpec)) chainAddSpecCard

/-- THE TIED CARD OF 'podiumlaw08.ChainBuilt'. -/
def chainBuiltCard : Claim7 := { stood := { row := chainBuiltRow, standIns := [], harness := (true, "591f48f8f32df62d838cb6c93014356201156b4ba75b977cec149529f8af8666"), looks := true }, kinds := [], alts := [], laidByText := true, laidKinds := [.data, .data], laidTests := true, laidLooks := .later }
def ChainBuiltCardSaid : Prop := Claim7.holds Tryd.pinned (.plain (OpenSpec.ofChange chainBuiltSpec)) chainBuiltCard

/-- THE TIED CARD OF 'podiumlaw08.ChainEqual'. -/
def chainEqualCard : Claim7 := { stood := { row := chainEqualRow, standIns := [], harness := (true, "591f48f8f32df62d838cb6c93014356201156b4ba75b977cec149529f8af8666"), looks := true }, kinds := [], alts := [], laidByText := true, laidKinds := [.data, .data], laidTests := true, laidLooks := .later }
def ChainEqualCardSaid : Prop := Claim7.holds Tryd.pinned (.plain (OpenSpec.ofChange chainEqualSpec)) chainEqualCard

/-- THE TIED CARD OF 'podiumlaw08.ChainChanged'. -/
def chainChangedCard : Claim7 := { stood := { row := chainChangedRow, standIns := [], harness := (true, "591f48f8f32df62d838cb6c93014356201156b4ba75b977cec149529f8af8666"), looks := true }, kinds := [], alts := [], laidByText := true, laidKinds := [.data, .data], laidTests := true, laidLooks := .later }
def ChainChangedCardSaid : Prop := Claim7.holds Tryd.pinned (.plain (OpenSpec.ofChange chainChangedSpec)) chainChangedCard

/-- THE TIED CARD OF 'podiumlaw08.ChainParts'. -/
def chainPartsCard : Claim7 := { stood := { row := chainPartsRow, standIns := [], harness := (true, "591f48f8f32df62d838cb6c93014356201156b4ba75b977cec149529f8af8666"), looks := true }, kinds := [], alts := [], laidByText := true, laidKinds := [.data, .data], laidTests := true, laidLooks := .later }
def ChainPartsCardSaid : Prop := Claim7.holds Tryd.pinned (.plain (OpenSpec.ofChange chainPartsSpec)) chainPartsCard

/-- THE TIED CARD OF 'podiumlaw31.BeaconSpec'. -/
def beaconSpecCard : Claim7 := { stood := { row := beaconSpecRow, standIns := [], harness := (true, "591f48f8f32df62d838cb6c93014356201156b4ba75b977cec149529f8af8666"), looks := true }, kinds := [], alts := [], laidByText := true, laidKinds := [.data, .data], laidTests := true, laidLooks := .later }
def BeaconSpecCardSaid : Prop := Claim7.holds Tryd.pinned (.plain (OpenSpec.ofChange beaconSpecSpec)) beaconSpecCard

/-- THE TIED CARD OF 'podiumlaw31.BeaconBitsSpec'. -/
def beaconBitsSpecCard : Claim7 := { stood := { row := beaconBitsSpecRow, standIns := [], harness := (true, "591f48f8f32df62d838cb6c93014356201156b4ba75b977cec149529f8af8666"), looks := true }, kinds := [], alts := [], laidByText := true, laidKinds := [.data, .data], laidTests := true, laidLooks := .later }
def BeaconBitsSpecCardSaid : Prop := Claim7.holds Tryd.pinned (.plain (OpenSpec.ofChange beaconBitsSpecSpec)) beaconBitsSpecCard

/-- THE TIED CARD OF 'podiumlaw31.BeaconMissing'. -/
def beaconMissingCard : Claim7 := { stood := { row := beaconMissingRow, standIns := [], harness := (true, "591f48f8f32df62d838cb6c93014356201156b4ba75b977cec149529f8af8666"), looks := true }, kinds := [], alts := [], laidByText := true, laidKinds := [.data, .data], laidTests := true, laidLooks := .later }
def BeaconMissingCardSaid : Prop := Claim7.holds Tryd.pinned (.plain (OpenSpec.ofChange beaconMissingSpec)) beaconMissingCard

/-- THE TIED CARD OF 'podiumlaw31.BeaconFixed'. -/
def beaconFixedCard : Claim7 := { stood := { row := beaconFixedRow, standIns := [], harness := (true, "591f48f8f32df62d838cb6c93014356201156b4ba75b977cec149529f8af8666"), looks := true }, kinds := [], alts := [], laidByText := true, laidKinds := [.data, .data], laidTests := true, laidLooks := .later }
def BeaconFixedCardSaid : Prop := Claim7.holds Tryd.pinned (.plain (OpenSpec.ofChange beaconFixedSpec)) beaconFixedCard

/-- THE TIED CARD OF 'podiumlaw31.BeaconOpened'. -/
def beaconOpenedCard : Claim7 := { stood := { row := beaconOpenedRow, standIns := [], harness := (true, "591f48f8f32df62d838cb6c93014356201156b4ba75b977cec149529f8af8666"), looks := true }, kinds := [], alts := [], laidByText := true, laidKinds := [.data, .data], laidTests := true, laidLooks := .later }
def BeaconOpenedCardSaid : Prop := Claim7.holds Tryd.pinned (.plain (OpenSpec.ofChange beaconOpenedSpec)) beaconOpenedCard

/-- THE TIED CARD OF 'podiumlaw31.BeaconIdle'. -/
def beaconIdleCard : Claim7 := { stood := { row := beaconIdleRow, standIns := [], harness := (true, "591f48f8f32df62d838cb6c93014356201156b4ba75b977cec149529f8af8666"), looks := true }, kinds := [], alts := [], laidByText := true, laidKinds := [.data, .data], laidTests := true, laidLooks := .later }
def BeaconIdleCardSaid : Prop := Claim7.holds Tryd.pinned (.plain (OpenSpec.ofChange beaconIdleSpec)) beaconIdleCard

/-- THE TIED CARD OF 'podiumlaw31.BeaconFirst'. -/
def beaconFirstCard : Claim7 := { stood := { row := beaconFirstRow, standIns := [], harness := (true, "591f48f8f32df62d838cb6c93014356201156b4ba75b977cec149529f8af8666"), looks := true }, kinds := [], alts := [], laidByText := true, laidKinds := [.data, .data], laidTests := true, laidLooks := .later }
def BeaconFirstCardSaid : Prop := Claim7.holds Tryd.pinned (.plain (OpenSpec.ofChange beaconFirstSpec)) beaconFirstCard

/-- THE TIED CARD OF 'podiumlaw55.SampleSpec'. -/
def sampleSpecCard : Claim7 := { stood := { row := sampleSpecRow, standIns := [], harness := (true, "591f48f8f32df62d838cb6c93014356201156b4ba75b977cec149529f8af8666"), looks := true }, kinds := [], alts := [], laidByText := true, laidKinds := [.data, .data], laidTests := true, laidLooks := .later }
def SampleSpecCardSaid : Prop := Claim7.holds Tryd.pinned (.plain (OpenSpec.ofChange sampleSpecSpec)) sampleSpecCard

/-- THE TIED CARD OF 'podiumlaw55.SampleStrataSpec'. -/
def sampleStrataSpecCard : Claim7 := { stood := { row := sampleStrataSpecRow, standIns := [], harness := (true, "591f48f8f32df62d838cb6c93014356201156b4ba75b977cec149529f8af8666"), looks := true }, kinds := [], alts := [], laidByText := true, laidKinds := [.data, .data], laidTests := true, laidLooks := .later }
def SampleStrataSpecCardSaid : Prop := Claim7.holds Tryd.pinned (.plain (OpenSpec.ofChange sampleStrataSpecSpec)) sampleStrataSpecCard

/-- THE TIED CARD OF 'podiumlaw55.SampleEven'. -/
def sampleEvenCard : Claim7 := { stood := { row := sampleEvenRow, standIns := [], harness := (true, "591f48f8f32df62d838cb6c93014356201156b4ba75b977cec149529f8af8666"), looks := true }, kinds := [], alts := [], laidByText := true, laidKinds := [.data, .data], laidTests := true, laidLooks := .later }
def SampleEvenCardSaid : Prop := Claim7.holds Tryd.pinned (.plain (OpenSpec.ofChange sampleEvenSpec)) sampleEvenCard

/-- THE TIED CARD OF 'podiumlaw55.SampleFirst'. -/
def sampleFirstCard : Claim7 := { stood := { row := sampleFirstRow, standIns := [], harness := (true, "591f48f8f32df62d838cb6c93014356201156b4ba75b977cec149529f8af8666"), looks := true }, kinds := [], alts := [], laidByText := true, laidKinds := [.data, .data], laidTests := true, laidLooks := .later }
def SampleFirstCardSaid : Prop := Claim7.holds Tryd.pinned (.plain (OpenSpec.ofChange sampleFirstSpec)) sampleFirstCard

/-- THE TIED CARD OF 'podiumlaw55.SampleParts'. -/
def samplePartsCard : Claim7 := { stood := { row := samplePartsRow, standIns := [], harness := (true, "591f48f8f32df62d838cb6c93014356201156b4ba75b977cec149529f8af8666"), looks := true }, kinds := [], alts := [], laidByText := true, laidKinds := [.data, .data], laidTests := true, laidLooks := .later }
def SamplePartsCardSaid : Prop := Claim7.holds Tryd.pinned (.plain (OpenSpec.ofChange samplePartsSpec)) samplePartsCard

/-- THE SECOND FORM's CARD OF 'podiumlaw32.DrawSpec'. -/
def drawSpecUptoCard : Claim7 := { stood := { row := drawSpecUptoRow, standIns := [], harness := (true, "591f48f8f32df62d838cb6c93014356201156b4ba75b977cec149529f8af8666"), looks := true }, kinds := [], alts := [], laidByText := true, laidKinds := [.data, .data], laidTests := true, laidLooks := .later }
def DrawSpecUptoCardSaid : Prop := Claim7.holds Tryd.pinned (.plain (OpenSpec.upto drawSpecSpec)) drawSpecUptoCard

/-- THE SECOND FORM's CARD OF 'podiumlaw32.DrawOrderSpec'. -/
def drawOrderSpecUptoCard : Claim7 := { stood := { row := drawOrderSpecUptoRow, standIns := [], harness := (true, "591f48f8f32df62d838cb6c93014356201156b4ba75b977cec149529f8af8666"), looks := true }, kinds := [], alts := [], laidByText := true, laidKinds := [.data, .data], laidTests := true, laidLooks := .later }
def DrawOrderSpecUptoCardSaid : Prop := Claim7.holds Tryd.pinned (.plain (OpenSpec.upto drawOrderSpecSpec)) drawOrderSpecUptoCard

/-- THE SECOND FORM's CARD OF 'podiumlaw32.DrawEven'. -/
def drawEvenUptoCard : Claim7 := { stood := { row := drawEvenUptoRow, standIns := [], harness := (true, "591f48f8f32df62d838cb6c93014356201156b4ba75b977cec149529f8af8666"), looks := true }, kinds := [], alts := [], laidByText := true, laidKinds := [.data, .data], laidTests := true, laidLooks := .later }
def DrawEvenUptoCardSaid : Prop := Claim7.holds Tryd.pinned (.plain (OpenSpec.upto drawEvenSpec)) drawEvenUptoCard

/-- THE SECOND FORM's CARD OF 'podiumlaw32.DrawPerm'. -/
def drawPermUptoCard : Claim7 := { stood := { row := drawPermUptoRow, standIns := [], harness := (true, "591f48f8f32df62d838cb6c93014356201156b4ba75b977cec149529f8af8666"), looks := true }, kinds := [], alts := [], laidByText := true, laidKinds := [.data, .data], laidTests := true, laidLooks := .later }
def DrawPermUptoCardSaid : Prop := Claim7.holds Tryd.pinned (.plain (OpenSpec.upto drawPermSpec)) drawPermUptoCard

/-- THE SECOND FORM's CARD OF 'podiumlaw32.DrawReached'. -/
def drawReachedUptoCard : Claim7 := { stood := { row := drawReachedUptoRow, standIns := [], harness := (true, "591f48f8f32df62d838cb6c93014356201156b4ba75b977cec149529f8af8666"), looks := true }, kinds := [], alts := [], laidByText := true, laidKinds := [.data, .data], laidTests := true, laidLooks := .later }
def DrawReachedUptoCardSaid : Prop := Claim7.holds Tryd.pinned (.plain (OpenSpec.upto drawReachedSpec)) drawReachedUptoCard

/-- THE SECOND FORM's CARD OF 'podiumlaw32.DrawWords'. -/
def drawWordsUptoCard : Claim7 := { stood := { row := drawWordsUptoRow, standIns := [], harness := (true, "591f48f8f32df62d838cb6c93014356201156b4ba75b977cec149529f8af8666"), looks := true }, kinds := [], alts := [], laidByText := true, laidKinds := [.data, .data], laidTests := true, laidLooks := .later }
def DrawWordsUptoCardSaid : Prop := Claim7.holds Tryd.pinned (.plain (OpenSpec.upto drawWordsSpec)) drawWordsUptoCard

/-- THE SECOND FORM's CARD OF 'podiumlaw08.ChainAddSpec'. -/
def chainAddSpecUptoCard : Claim7 := { stood := { row := chainAddSpecUptoRow, standIns := [], harness := (true, "591f48f8f32df62d838cb6c93014356201156b4ba75b977cec149529f8af8666"), looks := true }, kinds := [], alts := [], laidByText := true, laidKinds := [.data, .data], laidTests := true, laidLooks := .later }
def ChainAddSpecUptoCardSaid : Prop := Claim7.holds Tryd.pinned (.plain (OpenSpec.upto chainAddSpecSpec)) chainAddSpecUptoCard

/-- THE SECOND FORM's CARD OF 'podiumlaw08.ChainBuilt'. -/
def chainBuiltUptoCard : Claim7 := { stood := { row := chainBuiltUptoRow, standIns := [], harness := (true, "591f48f8f32df62d838cb6c93014356201156b4ba75b977cec149529f8af8666"), looks := true }, kinds := [], alts := [], laidByText := true, laidKinds := [.data, .data], laidTests := true, laidLooks := .later }
def ChainBuiltUptoCardSaid : Prop := Claim7.holds Tryd.pinned (.plain (OpenSpec.upto chainBuiltSpec)) chainBuiltUptoCard

/-- THE SECOND FORM's CARD OF 'podiumlaw08.ChainEqual'. -/
def chainEqualUptoCard : Claim7 := { stood := { row := chainEqualUptoRow, standIns := [], harness := (true, "591f48f8f32df62d838cb6c93014356201156b4ba75b977cec149529f8af8666"), looks := true }, kinds := [], alts := [], laidByText := true, laidKinds := [.data, .data], laidTests := true, laidLooks := .later }
def ChainEqualUptoCardSaid : Prop := Claim7.holds Tryd.pinned (.plain (OpenSpec.upto chainEqualSpec)) chainEqualUptoCard

/-- THE SECOND FORM's CARD OF 'podiumlaw08.ChainChanged'. -/
def chainChangedUptoCard : Claim7 := { stood := { row := chainChangedUptoRow, standIns := [], harness := (true, "591f48f8f32df62d838cb6c93014356201156b4ba75b977cec149529f8af8666"), looks := true }, kinds := [], alts := [], laidByText := true, laidKinds := [.data, .data], laidTests := true, laidLooks := .later }
def ChainChangedUptoCardSaid : Prop := Claim7.holds Tryd.pinned (.plain (OpenSpec.upto chainChangedSpec)) chainChangedUptoCard

/-- THE SECOND FORM's CARD OF 'podiumlaw08.ChainParts'. -/
def chainPartsUptoCard : Claim7 := { stood := { row := chainPartsUptoRow, standIns := [], harness := (true, "591f48f8f32df62d838cb6c93014356201156b4ba75b977cec149529f8af8666"), looks := true }, kinds := [], alts := [], laidByText := true, laidKinds := [.data, .data], laidTests := true, laidLooks := .later }
def ChainPartsUptoCardSaid : Prop := Claim7.holds Tryd.pinned (.plain (OpenSpec.upto chainPartsSpec)) chainPartsUptoCard

/-- THE SECOND FORM's CARD OF 'podiumlaw31.BeaconSpec'. -/
def beaconSpecUptoCard : Claim7 := { stood := { row := beaconSpecUptoRow, standIns := [], harness := (true, "591f48f8f32df62d838cb6c93014356201156b4ba75b977cec149529f8af8666"), looks := true }, kinds := [], alts := [], laidByText := true, laidKinds := [.data, .data], laidTests := true, laidLooks := .later }
def BeaconSpecUptoCardSaid : Prop := Claim7.holds Tryd.pinned (.plain (OpenSpec.upto beaconSpecSpec)) beaconSpecUptoCard

/-- THE SECOND FORM's CARD OF 'podiumlaw31.BeaconBitsSpec'. -/
def beaconBitsSpecUptoCard : Claim7 := { stood := { row := beaconBitsSpecUptoRow, standIns := [], harness := (true, "591f48f8f32df62d838cb6c93014356201156b4ba75b977cec149529f8af8666"), looks := true }, kinds := [], alts := [], laidByText := true, laidKinds := [.data, .data], laidTests := true, laidLooks := .later }
def BeaconBitsSpecUptoCardSaid : Prop := Claim7.holds Tryd.pinned (.plain (OpenSpec.upto beaconBitsSpecSpec)) beaconBitsSpecUptoCard

/-- THE SECOND FORM's CARD OF 'podiumlaw31.BeaconMissing'. -/
def beaconMissingUptoCard : Claim7 := { stood := { row := beaconMissingUptoRow, standIns := [], harness := (true, "591f48f8f32df62d838cb6c93014356201156b4ba75b977cec149529f8af8666"), looks := true }, kinds := [], alts := [], laidByText := true, laidKinds := [.data, .data], laidTests := true, laidLooks := .later }
def BeaconMissingUptoCardSaid : Prop := Claim7.holds Tryd.pinned (.plain (OpenSpec.upto beaconMissingSpec)) beaconMissingUptoCard

/-- THE SECOND FORM's CARD OF 'podiumlaw31.BeaconFixed'. -/
def beaconFixedUptoCard : Claim7 := { stood := { row := beaconFixedUptoRow, standIns := [], harness := (true, "591f48f8f32df62d838cb6c93014356201156b4ba75b977cec149529f8af8666"), looks := true }, kinds := [], alts := [], laidByText := true, laidKinds := [.data, .data], laidTests := true, laidLooks := .later }
def BeaconFixedUptoCardSaid : Prop := Claim7.holds Tryd.pinned (.plain (OpenSpec.upto beaconFixedSpec)) beaconFixedUptoCard

/-- THE SECOND FORM's CARD OF 'podiumlaw31.BeaconOpened'. -/
def beaconOpenedUptoCard : Claim7 := { stood := { row := beaconOpenedUptoRow, standIns := [], harness := (true, "591f48f8f32df62d838cb6c93014356201156b4ba75b977cec149529f8af8666"), looks := true }, kinds := [], alts := [], laidByText := true, laidKinds := [.data, .data], laidTests := true, laidLooks := .later }
def BeaconOpenedUptoCardSaid : Prop := Claim7.holds Tryd.pinned (.plain (OpenSpec.upto beaconOpenedSpec)) beaconOpenedUptoCard

/-- THE SECOND FORM's CARD OF 'podiumlaw31.BeaconIdle'. -/
def beaconIdleUptoCard : Claim7 := { stood := { row := beaconIdleUptoRow, standIns := [], harness := (true, "591f48f8f32df62d838cb6c93014356201156b4ba75b977cec149529f8af8666"), looks := true }, kinds := [], alts := [], laidByText := true, laidKinds := [.data, .data], laidTests := true, laidLooks := .later }
def BeaconIdleUptoCardSaid : Prop := Claim7.holds Tryd.pinned (.plain (OpenSpec.upto beaconIdleSpec)) beaconIdleUptoCard

/-- THE SECOND FORM's CARD OF 'podiumlaw31.BeaconFirst'. -/
def beaconFirstUptoCard : Claim7 := { stood := { row := beaconFirstUptoRow, standIns := [], harness := (true, "591f48f8f32df62d838cb6c93014356201156b4ba75b977cec149529f8af8666"), looks := true }, kinds := [], alts := [], laidByText := true, laidKinds := [.data, .data], laidTests := true, laidLooks := .later }
def BeaconFirstUptoCardSaid : Prop := Claim7.holds Tryd.pinned (.plain (OpenSpec.upto beaconFirstSpec)) beaconFirstUptoCard

/-- THE SECOND FORM's CARD OF 'podiumlaw55.SampleSpec'. -/
def sampleSpecUptoCard : Claim7 := { stood := { row := sampleSpecUptoRow, standIns := [], harness := (true, "591f48f8f32df62d838cb6c93014356201156b4ba75b977cec149529f8af8666"), looks := true }, kinds := [], alts := [], laidByText := true, laidKinds := [.data, .data], laidTests := true, laidLooks := .later }
def SampleSpecUptoCardSaid : Prop := Claim7.holds Tryd.pinned (.plain (OpenSpec.upto sampleSpecSpec)) sampleSpecUptoCard

/-- THE SECOND FORM's CARD OF 'podiumlaw55.SampleStrataSpec'. -/
def sampleStrataSpecUptoCard : Claim7 := { stood := { row := sampleStrataSpecUptoRow, standIns := [], harness := (true, "591f48f8f32df62d838cb6c93014356201156b4ba75b977cec149529f8af8666"), looks := true }, kinds := [], alts := [], laidByText := true, laidKinds := [.data, .data], laidTests := true, laidLooks := .later }
def SampleStrataSpecUptoCardSaid : Prop := Claim7.holds Tryd.pinned (.plain (OpenSpec.upto sampleStrataSpecSpec)) sampleStrataSpecUptoCard

/-- THE SECOND FORM's CARD OF 'podiumlaw55.SampleEven'. -/
def sampleEvenUptoCard : Claim7 := { stood := { row := sampleEvenUptoRow, standIns := [], harness := (true, "591f48f8f32df62d838cb6c93014356201156b4ba75b977cec149529f8af8666"), looks := true }, kinds := [], alts := [], laidByText := true, laidKinds := [.data, .data], laidTests := true, laidLooks := .later }
def SampleEvenUptoCardSaid : Prop := Claim7.holds Tryd.pinned (.plain (OpenSpec.upto sampleEvenSpec)) sampleEvenUptoCard

/-- THE SECOND FORM's CARD OF 'podiumlaw55.SampleFirst'. -/
def sampleFirstUptoCard : Claim7 := { stood := { row := sampleFirstUptoRow, standIns := [], harness := (true, "591f48f8f32df62d838cb6c93014356201156b4ba75b977cec149529f8af8666"), looks := true }, kinds := [], alts := [], laidByText := true, laidKinds := [.data, .data], laidTests := true, laidLooks := .later }
def SampleFirstUptoCardSaid : Prop := Claim7.holds Tryd.pinned (.plain (OpenSpec.upto sampleFirstSpec)) sampleFirstUptoCard

/-- THE SECOND FORM's CARD OF 'podiumlaw55.SampleParts'. -/
def samplePartsUptoCard : Claim7 := { stood := { row := samplePartsUptoRow, standIns := [], harness := (true, "591f48f8f32df62d838cb6c93014356201156b4ba75b977cec149529f8af8666"), looks := true }, kinds := [], alts := [], laidByText := true, laidKinds := [.data, .data], laidTests := true, laidLooks := .later }
def SamplePartsUptoCardSaid : Prop := Claim7.holds Tryd.pinned (.plain (OpenSpec.upto samplePartsSpec)) samplePartsUptoCard
end Rows
end Go.Proofs.YtibnikokgbfcdaaDoor

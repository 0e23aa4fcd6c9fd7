/-
  No cell of these rows narrows 'for every input' (looked for: loops, veiled, ifaces, maps, wideKeys, modest, calm, conditions, laid).
  DERIVED. THE GIVEN ROWS OF THIS SEAT. 12 by the template 'for every input the law returns true; each argument reads behind the call as it read before'; 0 by the template 'total and deterministic' (their statements: YtignncjmbcdpaaaTotals.lean).
  GIVEN WITH THE SEED: the statements are not yours to turn. If you find one false, say at which input.
  Laid BY PROGRAM, IN A SANDBOX (cutbox-rows.mjs): the forced cells as the released guide's own fill.sh prints them over the translation b8a74165eaf7532f… (all of the seat's roots in one cut). By AI agents, Wed Nov 11 2026. No macro, syntax, notation, axiom, sorry.
-/
import Derived.Test.YtignncjmbcdpaaaChecked
import GoSem.Claim
import GoSem.ClaimJoined
import GoSem.ClaimMapViews
import Derived.JoinedTies
import Derived.KernelRfl
namespace Go.Proofs.Ytignncjmbcdpaaa
/- THE CELL 'sum', in the pinned program and in every row, IS THE sha256 OF THE DUMP (.gsa) THAT YtignncjmbcdpaaaProg.lean LOADS. Nothing in Lean hashes anything: it is a label: what it is worth is what the hold of that sum in a sandbox is worth. -/
noncomputable def Try.pinned : Pinned := { name := "ytignncjmbcdpaaa", sum := "b8a74165eaf7532f5c07040dd47b3209cd65432a7720804612e2beab0416beb2", checked := Try.checked }
namespace Rows
def none {H : Type} : Left H := { results := [], args := [] }

/-- 'laws.FnLimited': WHATEVER THE INPUT: true; the input reads as it did. -/
def fnLimitedSpec : ChangeSpec := { name := "fnLimited", fn := fun _ => fun
  | [d] => { results := [.lit (.bool true)], args := [d] }
  | _ => none }
def fnLimitedRow : OpenClaim := { program := "ytignncjmbcdpaaa", sum := "b8a74165eaf7532f5c07040dd47b3209cd65432a7720804612e2beab0416beb2", func := "loop.example/g03222/laws.FnLimited", spec := "fnLimited", inPlace := ["math.Float64bits", "math.Float64frombits", "math.Float32bits", "math.Float32frombits"], apart := false }
def FnLimitedSaid : Prop := fnLimitedRow.holds Try.pinned (OpenSpec.ofChange fnLimitedSpec)

/-- ITS FALSE NEIGHBOUR: 'it returns false'. Refute it at one input. -/
def fnLimitedWrong : ChangeSpec := { name := "fnLimited", fn := fun _ => fun
  | [d] => { results := [.lit (.bool false)], args := [d] }
  | _ => none }
def FnLimitedWrongFalsely : Prop := fnLimitedRow.holds Try.pinned (OpenSpec.ofChange fnLimitedWrong)

/-- 'laws.FnPair': WHATEVER THE INPUT: true; the input reads as it did. -/
def fnPairSpec : ChangeSpec := { name := "fnPair", fn := fun _ => fun
  | [d] => { results := [.lit (.bool true)], args := [d] }
  | _ => none }
def fnPairRow : OpenClaim := { program := "ytignncjmbcdpaaa", sum := "b8a74165eaf7532f5c07040dd47b3209cd65432a7720804612e2beab0416beb2", func := "loop.example/g03222/laws.FnPair", spec := "fnPair", inPlace := ["math.Float64bits", "math.Float64frombits"], unfollowed := true, recurses := true, apart := false }
def FnPairSaid : Prop := fnPairRow.holds Try.pinned (OpenSpec.ofChange fnPairSpec)

/-- ITS FALSE NEIGHBOUR: 'it returns false'. Refute it at one input. -/
def fnPairWrong : ChangeSpec := { name := "fnPair", fn := fun _ => fun
  | [d] => { results := [.lit (.bool false)], args := [d] }
  | _ => none }
def FnPairWrongFalsely : Prop := fnPairRow.holds Try.pinned (OpenSpec.ofChange fnPairWrong)

/-- 'laws.FnUnits': WHATEVER THE INPUT: true; the input reads as it did. -/
def fnUnitsSpec : ChangeSpec := { name := "fnUnits", fn := fun _ => fun
  | [d] => { results := [.lit (.bool true)], args := [d] }
  | _ => none }
def fnUnitsRow : OpenClaim := { program := "ytignncjmbcdpaaa", sum := "b8a74165eaf7532f5c07040dd47b3209cd65432a7720804612e2beab0416beb2", func := "loop.example/g03222/laws.FnUnits", spec := "fnUnits", inPlace := ["math.Float64bits", "math.Float64frombits"], apart := false }
def FnUnitsSaid : Prop := fnUnitsRow.holds Try.pinned (OpenSpec.ofChange fnUnitsSpec)

/-- ITS FALSE NEIGHBOUR: 'it returns false'. Refute it at one input. -/
def fnUnitsWrong : ChangeSpec := { name := "fnUnits", fn := fun _ => fun
  | [d] => { results := [.lit (.bool false)], args := [d] }
  | _ => none }
def FnUnitsWrongFalsely : Prop := fnUnitsRow.holds Try.pinned (OpenSpec.ofChange fnUnitsWrong)

/-- 'laws.FnExactLimitSamples': WHATEVER THE INPUT: true; the input reads as it did. -/
def fnExactLimitSamplesSpec : ChangeSpec := { name := "fnExactLimitSamples", fn := fun _ => fun
  | [d1, d2, d3] => { results := [.lit (.bool true)], args := [d1, d2, d3] }
  | _ => none }
def fnExactLimitSamplesRow : OpenClaim := { program := "ytignncjmbcdpaaa", sum := "b8a74165eaf7532f5c07040dd47b3209cd65432a7720804612e2beab0416beb2", func := "loop.example/g03222/laws.FnExactLimitSamples", spec := "fnExactLimitSamples", inPlace := ["math.Float64bits", "math.Float64frombits", "math.Float32bits", "math.Float32frombits"], recurses := true, apart := false }
def FnExactLimitSamplesSaid : Prop := fnExactLimitSamplesRow.holds Try.pinned (OpenSpec.ofChange fnExactLimitSamplesSpec)

/-- ITS FALSE NEIGHBOUR: 'it returns false'. Refute it at one input. -/
def fnExactLimitSamplesWrong : ChangeSpec := { name := "fnExactLimitSamples", fn := fun _ => fun
  | [d1, d2, d3] => { results := [.lit (.bool false)], args := [d1, d2, d3] }
  | _ => none }
def FnExactLimitSamplesWrongFalsely : Prop := fnExactLimitSamplesRow.holds Try.pinned (OpenSpec.ofChange fnExactLimitSamplesWrong)

/-- 'laws.FnHalved': WHATEVER THE INPUT: true; the input reads as it did. -/
def fnHalvedSpec : ChangeSpec := { name := "fnHalved", fn := fun _ => fun
  | [d] => { results := [.lit (.bool true)], args := [d] }
  | _ => none }
def fnHalvedRow : OpenClaim := { program := "ytignncjmbcdpaaa", sum := "b8a74165eaf7532f5c07040dd47b3209cd65432a7720804612e2beab0416beb2", func := "loop.example/g03222/laws.FnHalved", spec := "fnHalved", inPlace := ["math.Float64bits", "math.Float64frombits"], apart := false }
def FnHalvedSaid : Prop := fnHalvedRow.holds Try.pinned (OpenSpec.ofChange fnHalvedSpec)

/-- ITS FALSE NEIGHBOUR: 'it returns false'. Refute it at one input. -/
def fnHalvedWrong : ChangeSpec := { name := "fnHalved", fn := fun _ => fun
  | [d] => { results := [.lit (.bool false)], args := [d] }
  | _ => none }
def FnHalvedWrongFalsely : Prop := fnHalvedRow.holds Try.pinned (OpenSpec.ofChange fnHalvedWrong)

/-- 'laws.FnExactMixTracks': WHATEVER THE INPUT: true; the input reads as it did. -/
def fnExactMixTracksSpec : ChangeSpec := { name := "fnExactMixTracks", fn := fun _ => fun
  | [d1, d2, d3] => { results := [.lit (.bool true)], args := [d1, d2, d3] }
  | _ => none }
def fnExactMixTracksRow : OpenClaim := { program := "ytignncjmbcdpaaa", sum := "b8a74165eaf7532f5c07040dd47b3209cd65432a7720804612e2beab0416beb2", func := "loop.example/g03222/laws.FnExactMixTracks", spec := "fnExactMixTracks", inPlace := ["math.Float64bits", "math.Float64frombits", "math.Float32bits", "math.Float32frombits"], recurses := true, apart := false }
def FnExactMixTracksSaid : Prop := fnExactMixTracksRow.holds Try.pinned (OpenSpec.ofChange fnExactMixTracksSpec)

/-- ITS FALSE NEIGHBOUR: 'it returns false'. Refute it at one input. -/
def fnExactMixTracksWrong : ChangeSpec := { name := "fnExactMixTracks", fn := fun _ => fun
  | [d1, d2, d3] => { results := [.lit (.bool false)], args := [d1, d2, d3] }
  | _ => none }
def FnExactMixTracksWrongFalsely : Prop := fnExactMixTracksRow.holds Try.pinned (OpenSpec.ofChange fnExactMixTracksWrong)

/-- 'laws.FnFitted': WHATEVER THE INPUT: true; the input reads as it did. -/
def fnFittedSpec : ChangeSpec := { name := "fnFitted", fn := fun _ => fun
  | [d] => { results := [.lit (.bool true)], args := [d] }
  | _ => none }
def fnFittedRow : OpenClaim := { program := "ytignncjmbcdpaaa", sum := "b8a74165eaf7532f5c07040dd47b3209cd65432a7720804612e2beab0416beb2", func := "loop.example/g03222/laws.FnFitted", spec := "fnFitted", inPlace := ["math.Float64bits", "math.Float64frombits"], apart := false }
def FnFittedSaid : Prop := fnFittedRow.holds Try.pinned (OpenSpec.ofChange fnFittedSpec)

/-- ITS FALSE NEIGHBOUR: 'it returns false'. Refute it at one input. -/
def fnFittedWrong : ChangeSpec := { name := "fnFitted", fn := fun _ => fun
  | [d] => { results := [.lit (.bool false)], args := [d] }
  | _ => none }
def FnFittedWrongFalsely : Prop := fnFittedRow.holds Try.pinned (OpenSpec.ofChange fnFittedWrong)

/-- 'laws.FnShapes': WHATEVER THE INPUT: true; the input reads as it did. -/
def fnShapesSpec : ChangeSpec := { name := "fnShapes", fn := fun _ => fun
  | [d] => { results := [.lit (.bool true)], args := [d] }
  | _ => none }
def fnShapesRow : OpenClaim := { program := "ytignncjmbcdpaaa", sum := "b8a74165eaf7532f5c07040dd47b3209cd65432a7720804612e2beab0416beb2", func := "loop.example/g03222/laws.FnShapes", spec := "fnShapes", inPlace := ["math.Float64bits", "math.Float64frombits"], unfollowed := true, recurses := true, apart := false }
def FnShapesSaid : Prop := fnShapesRow.holds Try.pinned (OpenSpec.ofChange fnShapesSpec)

/-- ITS FALSE NEIGHBOUR: 'it returns false'. Refute it at one input. -/
def fnShapesWrong : ChangeSpec := { name := "fnShapes", fn := fun _ => fun
  | [d] => { results := [.lit (.bool false)], args := [d] }
  | _ => none }
def FnShapesWrongFalsely : Prop := fnShapesRow.holds Try.pinned (OpenSpec.ofChange fnShapesWrong)

/-- 'laws.FnDrift': WHATEVER THE INPUT: true; the input reads as it did. -/
def fnDriftSpec : ChangeSpec := { name := "fnDrift", fn := fun _ => fun
  | [d] => { results := [.lit (.bool true)], args := [d] }
  | _ => none }
def fnDriftRow : OpenClaim := { program := "ytignncjmbcdpaaa", sum := "b8a74165eaf7532f5c07040dd47b3209cd65432a7720804612e2beab0416beb2", func := "loop.example/g03222/laws.FnDrift", spec := "fnDrift", inPlace := ["math.Float64bits", "math.Float64frombits"], unfollowed := true, recurses := true, apart := false }
def FnDriftSaid : Prop := fnDriftRow.holds Try.pinned (OpenSpec.ofChange fnDriftSpec)

/-- ITS FALSE NEIGHBOUR: 'it returns false'. Refute it at one input. -/
def fnDriftWrong : ChangeSpec := { name := "fnDrift", fn := fun _ => fun
  | [d] => { results := [.lit (.bool false)], args := [d] }
  | _ => none }
def FnDriftWrongFalsely : Prop := fnDriftRow.holds Try.pinned (OpenSpec.ofChange fnDriftWrong)

/-- 'laws.FnRung': WHATEVER THE INPUT: true; the input reads as it did. -/
def fnRungSpec : ChangeSpec := { name := "fnRung", fn := fun _ => fun
  | [d] => { results := [.lit (.bool true)], args := [d] }
  | _ => none }
def fnRungRow : OpenClaim := { program := "ytignncjmbcdpaaa", sum := "b8a74165eaf7532f5c07040dd47b3209cd65432a7720804612e2beab0416beb2", func := "loop.example/g03222/laws.FnRung", spec := "fnRung", inPlace := ["math.Float64bits", "math.Float64frombits"], unfollowed := true, recurses := true, apart := false }
def FnRungSaid : Prop := fnRungRow.holds Try.pinned (OpenSpec.ofChange fnRungSpec)

/-- ITS FALSE NEIGHBOUR: 'it returns false'. Refute it at one input. -/
def fnRungWrong : ChangeSpec := { name := "fnRung", fn := fun _ => fun
  | [d] => { results := [.lit (.bool false)], args := [d] }
  | _ => none }
def FnRungWrongFalsely : Prop := fnRungRow.holds Try.pinned (OpenSpec.ofChange fnRungWrong)

/-- 'laws.FnMeasured': WHATEVER THE INPUT: true; the input reads as it did. -/
def fnMeasuredSpec : ChangeSpec := { name := "fnMeasured", fn := fun _ => fun
  | [d] => { results := [.lit (.bool true)], args := [d] }
  | _ => none }
def fnMeasuredRow : OpenClaim := { program := "ytignncjmbcdpaaa", sum := "b8a74165eaf7532f5c07040dd47b3209cd65432a7720804612e2beab0416beb2", func := "loop.example/g03222/laws.FnMeasured", spec := "fnMeasured", inPlace := ["math.Float64bits", "math.Float64frombits"], unfollowed := true, recurses := true, apart := false }
def FnMeasuredSaid : Prop := fnMeasuredRow.holds Try.pinned (OpenSpec.ofChange fnMeasuredSpec)

/-- ITS FALSE NEIGHBOUR: 'it returns false'. Refute it at one input. -/
def fnMeasuredWrong : ChangeSpec := { name := "fnMeasured", fn := fun _ => fun
  | [d] => { results := [.lit (.bool false)], args := [d] }
  | _ => none }
def FnMeasuredWrongFalsely : Prop := fnMeasuredRow.holds Try.pinned (OpenSpec.ofChange fnMeasuredWrong)

/-- 'laws.FnWidened': WHATEVER THE INPUT: true; the input reads as it did. -/
def fnWidenedSpec : ChangeSpec := { name := "fnWidened", fn := fun _ => fun
  | [d] => { results := [.lit (.bool true)], args := [d] }
  | _ => none }
def fnWidenedRow : OpenClaim := { program := "ytignncjmbcdpaaa", sum := "b8a74165eaf7532f5c07040dd47b3209cd65432a7720804612e2beab0416beb2", func := "loop.example/g03222/laws.FnWidened", spec := "fnWidened", inPlace := ["math.Float64bits", "math.Float64frombits"], unfollowed := true, recurses := true, apart := false }
def FnWidenedSaid : Prop := fnWidenedRow.holds Try.pinned (OpenSpec.ofChange fnWidenedSpec)

/-- ITS FALSE NEIGHBOUR: 'it returns false'. Refute it at one input. -/
def fnWidenedWrong : ChangeSpec := { name := "fnWidened", fn := fun _ => fun
  | [d] => { results := [.lit (.bool false)], args := [d] }
  | _ => none }
def FnWidenedWrongFalsely : Prop := fnWidenedRow.holds Try.pinned (OpenSpec.ofChange fnWidenedWrong)

/- THE SECOND FORM. 'bulk': how many values and letters a reading holds, each counted each time it is reached (what is shared counts as often as it is met; a slice's spare places count too). A statement '..UptoSaid' is the law's where the arguments, and the package variables that the reading takes, are together of bulk at most 1048576: NARROWER than '..Said'. Prove '..Said' where nothing that the law and all that it calls make is longer than what came in: it says more and counts as full. Else prove '..UptoSaid'. A law counts once. -/
mutual
def uptoBulk {H : Type} : DataW H → Nat
  | .lit (.string bytes) => bytes.length + 1
  | .lit _ => 1
  | .nil => 1
  | .ptr d => uptoBulk d + 1
  | .slice elems spare => uptoBulkAll elems + uptoBulkAll spare + 1
  | .agg parts => uptoBulkAll parts + 1
  | .iface _ d => uptoBulk d + 1
  | .map entries => uptoBulkEntries entries + 1
  | .held _ => 1
def uptoBulkAll {H : Type} : List (DataW H) → Nat
  | [] => 0
  | d :: r => uptoBulk d + uptoBulkAll r
def uptoBulkEntries {H : Type} : List (Lit × DataW H) → Nat
  | [] => 0
  | x :: r => uptoBulkEntry x + uptoBulkEntries r
def uptoBulkEntry {H : Type} : Lit × DataW H → Nat
  | (.string bytes, d) => bytes.length + uptoBulk d + 1
  | (_, d) => uptoBulk d + 1
 end
def uptoSmall : (H : Type) → List (DataW H) → Bool := fun _ ds => decide (uptoBulkAll ds ≤ 1048576)
def OpenSpec.upto (s : _root_.Go.ChangeSpec) : _root_.Go.OpenSpec := { _root_.Go.OpenSpec.ofChange s with cond := some uptoSmall }

/-- 'laws.FnLimited', WHERE WHAT IT READS IS OF BULK AT MOST 1048576: true; the input reads as it did. -/
def fnLimitedUptoRow : OpenClaim := { program := "ytignncjmbcdpaaa", sum := "b8a74165eaf7532f5c07040dd47b3209cd65432a7720804612e2beab0416beb2", func := "loop.example/g03222/laws.FnLimited", spec := "fnLimited", inPlace := ["math.Float64bits", "math.Float64frombits", "math.Float32bits", "math.Float32frombits"], apart := false, narrowed := true }
def FnLimitedUptoSaid : Prop := fnLimitedUptoRow.holds Try.pinned (OpenSpec.upto fnLimitedSpec)

/-- 'laws.FnPair', WHERE WHAT IT READS IS OF BULK AT MOST 1048576: true; the input reads as it did. -/
def fnPairUptoRow : OpenClaim := { program := "ytignncjmbcdpaaa", sum := "b8a74165eaf7532f5c07040dd47b3209cd65432a7720804612e2beab0416beb2", func := "loop.example/g03222/laws.FnPair", spec := "fnPair", inPlace := ["math.Float64bits", "math.Float64frombits"], unfollowed := true, recurses := true, apart := false, narrowed := true }
def FnPairUptoSaid : Prop := fnPairUptoRow.holds Try.pinned (OpenSpec.upto fnPairSpec)

/-- 'laws.FnUnits', WHERE WHAT IT READS IS OF BULK AT MOST 1048576: true; the input reads as it did. -/
def fnUnitsUptoRow : OpenClaim := { program := "ytignncjmbcdpaaa", sum := "b8a74165eaf7532f5c07040dd47b3209cd65432a7720804612e2beab0416beb2", func := "loop.example/g03222/laws.FnUnits", spec := "fnUnits", inPlace := ["math.Float64bits", "math.Float64frombits"], apart := false, narrowed := true }
def FnUnitsUptoSaid : Prop := fnUnitsUptoRow.holds Try.pinned (OpenSpec.upto fnUnitsSpec)

/-- 'laws.FnExactLimitSamples', WHERE WHAT IT READS IS OF BULK AT MOST 1048576: true; the input reads as it did. -/
def fnExactLimitSamplesUptoRow : OpenClaim := { program := "ytignncjmbcdpaaa", sum := "b8a74165eaf7532f5c07040dd47b3209cd65432a7720804612e2beab0416beb2", func := "loop.example/g03222/laws.FnExactLimitSamples", spec := "fnExactLimitSamples", inPlace := ["math.Float64bits", "math.Float64frombits", "math.Float32bits", "math.Float32frombits"], recurses := true, apart := false, narrowed := true }
def FnExactLimitSamplesUptoSaid : Prop := fnExactLimitSamplesUptoRow.holds Try.pinned (OpenSpec.upto fnExactLimitSamplesSpec)

/-- 'laws.FnHalved', WHERE WHAT IT READS IS OF BULK AT MOST 1048576: true; the input reads as it did. -/
def fnHalvedUptoRow : OpenClaim := { program := "ytignncjmbcdpaaa", sum := "b8a74165eaf7532f5c07040dd47b3209cd65432a7720804612e2beab0416beb2", func := "loop.example/g03222/laws.FnHalved", spec := "fnHalved", inPlace := ["math.Float64bits", "math.Float64frombits"], apart := false, narrowed := true }
def FnHalvedUptoSaid : Prop := fnHalvedUptoRow.holds Try.pinned (OpenSpec.upto fnHalvedSpec)

/-- 'laws.FnExactMixTracks', WHERE WHAT IT READS IS OF BULK AT MOST 1048576: true; the input reads as it did. -/
def fnExactMixTracksUptoRow : OpenClaim := { program := "ytignncjmbcdpaaa", sum := "b8a74165eaf7532f5c07040dd47b3209cd65432a7720804612e2beab0416beb2", func := "loop.example/g03222/laws.FnExactMixTracks", spec := "fnExactMixTracks", inPlace := ["math.Float64bits", "math.Float64frombits", "math.Float32bits", "math.Float32frombits"], recurses := true, apart := false, narrowed := true }
def FnExactMixTracksUptoSaid : Prop := fnExactMixTracksUptoRow.holds Try.pinned (OpenSpec.upto fnExactMixTracksSpec)

/-- 'laws.FnFitted', WHERE WHAT IT READS IS OF BULK AT MOST 1048576: true; the input reads as it did. -/
def fnFittedUptoRow : OpenClaim := { program := "ytignncjmbcdpaaa", sum := "b8a74165eaf7532f5c07040dd47b3209cd65432a7720804612e2beab0416beb2", func := "loop.example/g03222/laws.FnFitted", spec := "fnFitted", inPlace := ["math.Float64bits", "math.Float64frombits"], apart := false, narrowed := true }
def FnFittedUptoSaid : Prop := fnFittedUptoRow.holds Try.pinned (OpenSpec.upto fnFittedSpec)

/-- 'laws.FnShapes', WHERE WHAT IT READS IS OF BULK AT MOST 1048576: true; the input reads as it did. -/
def fnShapesUptoRow : OpenClaim := { program := "ytignncjmbcdpaaa", sum := "b8a74165eaf7532f5c07040dd47b3209cd65432a7720804612e2beab0416beb2", func := "loop.example/g03222/laws.FnShapes", spec := "fnShapes", inPlace := ["math.Float64bits", "math.Float64frombits"], unfollowed := true, recurses := true, apart := false, narrowed := true }
def FnShapesUptoSaid : Prop := fnShapesUptoRow.holds Try.pinned (OpenSpec.upto fnShapesSpec)

/-- 'laws.FnDrift', WHERE WHAT IT READS IS OF BULK AT MOST 1048576: true; the input reads as it did. -/
def fnDriftUptoRow : OpenClaim := { program := "ytignncjmbcdpaaa", sum := "b8a74165eaf7532f5c07040dd47b3209cd65432a7720804612e2beab0416beb2", func := "loop.example/g03222/laws.FnDrift", spec := "fnDrift", inPlace := ["math.Float64bits", "math.Float64frombits"], unfollowed := true, recurses := true, apart := false, narrowed := true }
def FnDriftUptoSaid : Prop := fnDriftUptoRow.holds Try.pinned (OpenSpec.upto fnDriftSpec)

/-- 'laws.FnRung', WHERE WHAT IT READS IS OF BULK AT MOST 1048576: true; the input reads as it did. -/
def fnRungUptoRow : OpenClaim := { program := "ytignncjmbcdpaaa", sum := "b8a74165eaf7532f5c07040dd47b3209cd65432a7720804612e2beab0416beb2", func := "loop.example/g03222/laws.FnRung", spec := "fnRung", inPlace := ["math.Float64bits", "math.Float64frombits"], unfollowed := true, recurses := true, apart := false, narrowed := true }
def FnRungUptoSaid : Prop := fnRungUptoRow.holds Try.pinned (OpenSpec.upto fnRungSpec)

/-- 'laws.FnMeasured', WHERE WHAT IT READS IS OF BULK AT MOST 1048576: true; the input reads as it did. -/
def fnMeasuredUptoRow : OpenClaim := { program := "ytignncjmbcdpaaa", sum := "b8a74165eaf7532f5c07040dd47b3209cd65432a7720804612e2beab0416beb2", func := "loop.example/g03222/laws.FnMeasured", spec := "fnMeasured", inPlace := ["math.Float64bits", "math.Float64frombits"], unfollowed := true, recurses := true, apart := false, narrowed := true }
def FnMeasuredUptoSaid : Prop := fnMeasuredUptoRow.holds Try.pinned (OpenSpec.upto fnMeasuredSpec)

/-- 'laws.FnWidened', WHERE WHAT IT READS IS OF BULK AT MOST 1048576: true; the input reads as it did. -/
def fnWidenedUptoRow : OpenClaim := { program := "ytignncjmbcdpaaa", sum := "b8a74165eaf7532f5c07040dd47b3209cd65432a7720804612e2beab0416beb2", func := "loop.example/g03222/laws.FnWidened", spec := "fnWidened", inPlace := ["math.Float64bits", "math.Float64frombits"], unfollowed := true, recurses := true, apart := false, narrowed := true }
def FnWidenedUptoSaid : Prop := fnWidenedUptoRow.holds Try.pinned (OpenSpec.upto fnWidenedSpec)

end Rows
end Go.Proofs.Ytignncjmbcdpaaa

/-
  No cell of these rows narrows 'for every input' (looked for: loops, veiled, ifaces, maps, wideKeys, modest, calm, conditions, laid).
  DERIVED. THE GIVEN ROWS OF THIS SEAT. 18 by the template 'for every input the law returns true; each argument reads behind the call as it read before'; 0 by the template 'total and deterministic' (their statements: YtbehfhmdilifkaaTotals.lean).
  GIVEN WITH THE SEED: the statements are not yours to turn. If you find one false, say at which input.
  Laid BY PROGRAM, IN A SANDBOX (cutbox-rows.mjs): the forced cells as the released guide's own fill.sh prints them over the translation b8c0a1c14ec2a2ee… (all of the seat's roots in one cut). By AI agents, Wed Nov 11 2026. No macro, syntax, notation, axiom, sorry.
-/
import Derived.Test.YtbehfhmdilifkaaChecked
import GoSem.Claim
import GoSem.ClaimJoined
import GoSem.ClaimMapViews
import Derived.JoinedTies
import Derived.KernelRfl
namespace Go.Proofs.Ytbehfhmdilifkaa
/- THE CELL 'sum', in the pinned program and in every row, IS THE sha256 OF THE DUMP (.gsa) THAT YtbehfhmdilifkaaProg.lean LOADS. Nothing in Lean hashes anything: it is a label: what it is worth is what the hold of that sum in a sandbox is worth. -/
noncomputable def Try.pinned : Pinned := { name := "ytbehfhmdilifkaa", sum := "b8c0a1c14ec2a2ee7687bfbf9aefffbb7c5adc7edd77084e613945b7220c5af3", checked := Try.checked }
namespace Rows
def none {H : Type} : Left H := { results := [], args := [] }

/-- 'bolsterlaw11.TeethTerms': WHATEVER THE INPUT: true; the input reads as it did. -/
def teethTermsSpec : ChangeSpec := { name := "teethTerms", fn := fun _ => fun
  | [d1, d2] => { results := [.lit (.bool true)], args := [d1, d2] }
  | _ => none }
def teethTermsRow : OpenClaim := { program := "ytbehfhmdilifkaa", sum := "b8c0a1c14ec2a2ee7687bfbf9aefffbb7c5adc7edd77084e613945b7220c5af3", func := "bolster/bolsterlaw11.TeethTerms", spec := "teethTerms", inPlace := ["internal/abi.NoEscape", "internal/bytealg.MakeNoZero"], unfollowed := true, recurses := true, apart := false }
def TeethTermsSaid : Prop := teethTermsRow.holds Try.pinned (OpenSpec.ofChange teethTermsSpec)

/-- ITS FALSE NEIGHBOUR: 'it returns false'. Refute it at one input. -/
def teethTermsWrong : ChangeSpec := { name := "teethTerms", fn := fun _ => fun
  | [d1, d2] => { results := [.lit (.bool false)], args := [d1, d2] }
  | _ => none }
def TeethTermsWrongFalsely : Prop := teethTermsRow.holds Try.pinned (OpenSpec.ofChange teethTermsWrong)

/-- 'bolsterlaw11.TeethNears': WHATEVER THE INPUT: true; the input reads as it did. -/
def teethNearsSpec : ChangeSpec := { name := "teethNears", fn := fun _ => fun
  | [d1, d2, d3] => { results := [.lit (.bool true)], args := [d1, d2, d3] }
  | _ => none }
def teethNearsRow : OpenClaim := { program := "ytbehfhmdilifkaa", sum := "b8c0a1c14ec2a2ee7687bfbf9aefffbb7c5adc7edd77084e613945b7220c5af3", func := "bolster/bolsterlaw11.TeethNears", spec := "teethNears", inPlace := ["internal/abi.NoEscape", "internal/bytealg.MakeNoZero"], unfollowed := true, recurses := true, apart := false }
def TeethNearsSaid : Prop := teethNearsRow.holds Try.pinned (OpenSpec.ofChange teethNearsSpec)

/-- ITS FALSE NEIGHBOUR: 'it returns false'. Refute it at one input. -/
def teethNearsWrong : ChangeSpec := { name := "teethNears", fn := fun _ => fun
  | [d1, d2, d3] => { results := [.lit (.bool false)], args := [d1, d2, d3] }
  | _ => none }
def TeethNearsWrongFalsely : Prop := teethNearsRow.holds Try.pinned (OpenSpec.ofChange teethNearsWrong)

/-- 'bolsterlaw11.TeethRoots': WHATEVER THE INPUT: true; the input reads as it did. -/
def teethRootsSpec : ChangeSpec := { name := "teethRoots", fn := fun _ => fun
  | [d] => { results := [.lit (.bool true)], args := [d] }
  | _ => none }
def teethRootsRow : OpenClaim := { program := "ytbehfhmdilifkaa", sum := "b8c0a1c14ec2a2ee7687bfbf9aefffbb7c5adc7edd77084e613945b7220c5af3", func := "bolster/bolsterlaw11.TeethRoots", spec := "teethRoots", inPlace := ["internal/abi.NoEscape", "internal/bytealg.MakeNoZero"], unfollowed := true, recurses := true, apart := false }
def TeethRootsSaid : Prop := teethRootsRow.holds Try.pinned (OpenSpec.ofChange teethRootsSpec)

/-- ITS FALSE NEIGHBOUR: 'it returns false'. Refute it at one input. -/
def teethRootsWrong : ChangeSpec := { name := "teethRoots", fn := fun _ => fun
  | [d] => { results := [.lit (.bool false)], args := [d] }
  | _ => none }
def TeethRootsWrongFalsely : Prop := teethRootsRow.holds Try.pinned (OpenSpec.ofChange teethRootsWrong)

/-- 'bolsterlaw11.TeethPells': WHATEVER THE INPUT: true; the input reads as it did. -/
def teethPellsSpec : ChangeSpec := { name := "teethPells", fn := fun _ => fun
  | [d1, d2] => { results := [.lit (.bool true)], args := [d1, d2] }
  | _ => none }
def teethPellsRow : OpenClaim := { program := "ytbehfhmdilifkaa", sum := "b8c0a1c14ec2a2ee7687bfbf9aefffbb7c5adc7edd77084e613945b7220c5af3", func := "bolster/bolsterlaw11.TeethPells", spec := "teethPells", inPlace := ["internal/abi.NoEscape", "internal/bytealg.MakeNoZero"], unfollowed := true, recurses := true, apart := false }
def TeethPellsSaid : Prop := teethPellsRow.holds Try.pinned (OpenSpec.ofChange teethPellsSpec)

/-- ITS FALSE NEIGHBOUR: 'it returns false'. Refute it at one input. -/
def teethPellsWrong : ChangeSpec := { name := "teethPells", fn := fun _ => fun
  | [d1, d2] => { results := [.lit (.bool false)], args := [d1, d2] }
  | _ => none }
def TeethPellsWrongFalsely : Prop := teethPellsRow.holds Try.pinned (OpenSpec.ofChange teethPellsWrong)

/-- 'bolsterlaw11.TeethBeats': WHATEVER THE INPUT: true; the input reads as it did. -/
def teethBeatsSpec : ChangeSpec := { name := "teethBeats", fn := fun _ => fun
  | [d1, d2] => { results := [.lit (.bool true)], args := [d1, d2] }
  | _ => none }
def teethBeatsRow : OpenClaim := { program := "ytbehfhmdilifkaa", sum := "b8c0a1c14ec2a2ee7687bfbf9aefffbb7c5adc7edd77084e613945b7220c5af3", func := "bolster/bolsterlaw11.TeethBeats", spec := "teethBeats", inPlace := ["internal/abi.NoEscape", "internal/bytealg.MakeNoZero"], unfollowed := true, recurses := true, apart := false }
def TeethBeatsSaid : Prop := teethBeatsRow.holds Try.pinned (OpenSpec.ofChange teethBeatsSpec)

/-- ITS FALSE NEIGHBOUR: 'it returns false'. Refute it at one input. -/
def teethBeatsWrong : ChangeSpec := { name := "teethBeats", fn := fun _ => fun
  | [d1, d2] => { results := [.lit (.bool false)], args := [d1, d2] }
  | _ => none }
def TeethBeatsWrongFalsely : Prop := teethBeatsRow.holds Try.pinned (OpenSpec.ofChange teethBeatsWrong)

/-- 'bolsterlaw11.TeethMarkovs': WHATEVER THE INPUT: true; the input reads as it did. -/
def teethMarkovsSpec : ChangeSpec := { name := "teethMarkovs", fn := fun _ => fun
  | [d] => { results := [.lit (.bool true)], args := [d] }
  | _ => none }
def teethMarkovsRow : OpenClaim := { program := "ytbehfhmdilifkaa", sum := "b8c0a1c14ec2a2ee7687bfbf9aefffbb7c5adc7edd77084e613945b7220c5af3", func := "bolster/bolsterlaw11.TeethMarkovs", spec := "teethMarkovs", inPlace := ["internal/abi.NoEscape", "internal/bytealg.MakeNoZero"], unfollowed := true, recurses := true, apart := false }
def TeethMarkovsSaid : Prop := teethMarkovsRow.holds Try.pinned (OpenSpec.ofChange teethMarkovsSpec)

/-- ITS FALSE NEIGHBOUR: 'it returns false'. Refute it at one input. -/
def teethMarkovsWrong : ChangeSpec := { name := "teethMarkovs", fn := fun _ => fun
  | [d] => { results := [.lit (.bool false)], args := [d] }
  | _ => none }
def TeethMarkovsWrongFalsely : Prop := teethMarkovsRow.holds Try.pinned (OpenSpec.ofChange teethMarkovsWrong)

/-- 'bolsterlaw11.TeethBest': WHATEVER THE INPUT: true; the input reads as it did. -/
def teethBestSpec : ChangeSpec := { name := "teethBest", fn := fun _ => fun
  | [d1, d2] => { results := [.lit (.bool true)], args := [d1, d2] }
  | _ => none }
def teethBestRow : OpenClaim := { program := "ytbehfhmdilifkaa", sum := "b8c0a1c14ec2a2ee7687bfbf9aefffbb7c5adc7edd77084e613945b7220c5af3", func := "bolster/bolsterlaw11.TeethBest", spec := "teethBest", inPlace := ["internal/abi.NoEscape", "internal/bytealg.MakeNoZero"], unfollowed := true, recurses := true, apart := false }
def TeethBestSaid : Prop := teethBestRow.holds Try.pinned (OpenSpec.ofChange teethBestSpec)

/-- ITS FALSE NEIGHBOUR: 'it returns false'. Refute it at one input. -/
def teethBestWrong : ChangeSpec := { name := "teethBest", fn := fun _ => fun
  | [d1, d2] => { results := [.lit (.bool false)], args := [d1, d2] }
  | _ => none }
def TeethBestWrongFalsely : Prop := teethBestRow.holds Try.pinned (OpenSpec.ofChange teethBestWrong)

/-- 'bolsterlaw11.TeethClosest': WHATEVER THE INPUT: true; the input reads as it did. -/
def teethClosestSpec : ChangeSpec := { name := "teethClosest", fn := fun _ => fun
  | [d1, d2] => { results := [.lit (.bool true)], args := [d1, d2] }
  | _ => none }
def teethClosestRow : OpenClaim := { program := "ytbehfhmdilifkaa", sum := "b8c0a1c14ec2a2ee7687bfbf9aefffbb7c5adc7edd77084e613945b7220c5af3", func := "bolster/bolsterlaw11.TeethClosest", spec := "teethClosest", inPlace := ["internal/abi.NoEscape", "internal/bytealg.MakeNoZero"], unfollowed := true, recurses := true, apart := false }
def TeethClosestSaid : Prop := teethClosestRow.holds Try.pinned (OpenSpec.ofChange teethClosestSpec)

/-- ITS FALSE NEIGHBOUR: 'it returns false'. Refute it at one input. -/
def teethClosestWrong : ChangeSpec := { name := "teethClosest", fn := fun _ => fun
  | [d1, d2] => { results := [.lit (.bool false)], args := [d1, d2] }
  | _ => none }
def TeethClosestWrongFalsely : Prop := teethClosestRow.holds Try.pinned (OpenSpec.ofChange teethClosestWrong)

/-- 'bolsterlaw11.TeethLagrange': WHATEVER THE INPUT: true; the input reads as it did. -/
def teethLagrangeSpec : ChangeSpec := { name := "teethLagrange", fn := fun _ => fun
  | [d] => { results := [.lit (.bool true)], args := [d] }
  | _ => none }
def teethLagrangeRow : OpenClaim := { program := "ytbehfhmdilifkaa", sum := "b8c0a1c14ec2a2ee7687bfbf9aefffbb7c5adc7edd77084e613945b7220c5af3", func := "bolster/bolsterlaw11.TeethLagrange", spec := "teethLagrange", inPlace := ["internal/abi.NoEscape", "internal/bytealg.MakeNoZero"], unfollowed := true, recurses := true, apart := false }
def TeethLagrangeSaid : Prop := teethLagrangeRow.holds Try.pinned (OpenSpec.ofChange teethLagrangeSpec)

/-- ITS FALSE NEIGHBOUR: 'it returns false'. Refute it at one input. -/
def teethLagrangeWrong : ChangeSpec := { name := "teethLagrange", fn := fun _ => fun
  | [d] => { results := [.lit (.bool false)], args := [d] }
  | _ => none }
def TeethLagrangeWrongFalsely : Prop := teethLagrangeRow.holds Try.pinned (OpenSpec.ofChange teethLagrangeWrong)

/-- 'bolsterlaw11.TeethRayleigh': WHATEVER THE INPUT: true; the input reads as it did. -/
def teethRayleighSpec : ChangeSpec := { name := "teethRayleigh", fn := fun _ => fun
  | [d1, d2, d3] => { results := [.lit (.bool true)], args := [d1, d2, d3] }
  | _ => none }
def teethRayleighRow : OpenClaim := { program := "ytbehfhmdilifkaa", sum := "b8c0a1c14ec2a2ee7687bfbf9aefffbb7c5adc7edd77084e613945b7220c5af3", func := "bolster/bolsterlaw11.TeethRayleigh", spec := "teethRayleigh", inPlace := ["internal/abi.NoEscape", "internal/bytealg.MakeNoZero"], unfollowed := true, recurses := true, apart := false }
def TeethRayleighSaid : Prop := teethRayleighRow.holds Try.pinned (OpenSpec.ofChange teethRayleighSpec)

/-- ITS FALSE NEIGHBOUR: 'it returns false'. Refute it at one input. -/
def teethRayleighWrong : ChangeSpec := { name := "teethRayleigh", fn := fun _ => fun
  | [d1, d2, d3] => { results := [.lit (.bool false)], args := [d1, d2, d3] }
  | _ => none }
def TeethRayleighWrongFalsely : Prop := teethRayleighRow.holds Try.pinned (OpenSpec.ofChange teethRayleighWrong)

/-- 'bolsterlaw11.TeethTriples': WHATEVER THE INPUT: true; the input reads as it did. -/
def teethTriplesSpec : ChangeSpec := { name := "teethTriples", fn := fun _ => fun
  | [d] => { results := [.lit (.bool true)], args := [d] }
  | _ => none }
def teethTriplesRow : OpenClaim := { program := "ytbehfhmdilifkaa", sum := "b8c0a1c14ec2a2ee7687bfbf9aefffbb7c5adc7edd77084e613945b7220c5af3", func := "bolster/bolsterlaw11.TeethTriples", spec := "teethTriples", inPlace := ["internal/abi.NoEscape", "internal/bytealg.MakeNoZero"], unfollowed := true, recurses := true, apart := false }
def TeethTriplesSaid : Prop := teethTriplesRow.holds Try.pinned (OpenSpec.ofChange teethTriplesSpec)

/-- ITS FALSE NEIGHBOUR: 'it returns false'. Refute it at one input. -/
def teethTriplesWrong : ChangeSpec := { name := "teethTriples", fn := fun _ => fun
  | [d] => { results := [.lit (.bool false)], args := [d] }
  | _ => none }
def TeethTriplesWrongFalsely : Prop := teethTriplesRow.holds Try.pinned (OpenSpec.ofChange teethTriplesWrong)

/-- 'bolsterlaw11.TeethScaled': WHATEVER THE INPUT: true; the input reads as it did. -/
def teethScaledSpec : ChangeSpec := { name := "teethScaled", fn := fun _ => fun
  | [d1, d2, d3] => { results := [.lit (.bool true)], args := [d1, d2, d3] }
  | _ => none }
def teethScaledRow : OpenClaim := { program := "ytbehfhmdilifkaa", sum := "b8c0a1c14ec2a2ee7687bfbf9aefffbb7c5adc7edd77084e613945b7220c5af3", func := "bolster/bolsterlaw11.TeethScaled", spec := "teethScaled", inPlace := ["internal/abi.NoEscape", "internal/bytealg.MakeNoZero"], unfollowed := true, recurses := true, apart := false }
def TeethScaledSaid : Prop := teethScaledRow.holds Try.pinned (OpenSpec.ofChange teethScaledSpec)

/-- ITS FALSE NEIGHBOUR: 'it returns false'. Refute it at one input. -/
def teethScaledWrong : ChangeSpec := { name := "teethScaled", fn := fun _ => fun
  | [d1, d2, d3] => { results := [.lit (.bool false)], args := [d1, d2, d3] }
  | _ => none }
def TeethScaledWrongFalsely : Prop := teethScaledRow.holds Try.pinned (OpenSpec.ofChange teethScaledWrong)

/-- 'bolsterlaw11.TeethBetweens': WHATEVER THE INPUT: true; the input reads as it did. -/
def teethBetweensSpec : ChangeSpec := { name := "teethBetweens", fn := fun _ => fun
  | [d1, d2] => { results := [.lit (.bool true)], args := [d1, d2] }
  | _ => none }
def teethBetweensRow : OpenClaim := { program := "ytbehfhmdilifkaa", sum := "b8c0a1c14ec2a2ee7687bfbf9aefffbb7c5adc7edd77084e613945b7220c5af3", func := "bolster/bolsterlaw11.TeethBetweens", spec := "teethBetweens", inPlace := ["internal/abi.NoEscape", "internal/bytealg.MakeNoZero"], unfollowed := true, recurses := true, apart := false }
def TeethBetweensSaid : Prop := teethBetweensRow.holds Try.pinned (OpenSpec.ofChange teethBetweensSpec)

/-- ITS FALSE NEIGHBOUR: 'it returns false'. Refute it at one input. -/
def teethBetweensWrong : ChangeSpec := { name := "teethBetweens", fn := fun _ => fun
  | [d1, d2] => { results := [.lit (.bool false)], args := [d1, d2] }
  | _ => none }
def TeethBetweensWrongFalsely : Prop := teethBetweensRow.holds Try.pinned (OpenSpec.ofChange teethBetweensWrong)

/-- 'bolsterlaw11.TeethNeighbours': WHATEVER THE INPUT: true; the input reads as it did. -/
def teethNeighboursSpec : ChangeSpec := { name := "teethNeighbours", fn := fun _ => fun
  | [d] => { results := [.lit (.bool true)], args := [d] }
  | _ => none }
def teethNeighboursRow : OpenClaim := { program := "ytbehfhmdilifkaa", sum := "b8c0a1c14ec2a2ee7687bfbf9aefffbb7c5adc7edd77084e613945b7220c5af3", func := "bolster/bolsterlaw11.TeethNeighbours", spec := "teethNeighbours", inPlace := ["internal/abi.NoEscape", "internal/bytealg.MakeNoZero"], unfollowed := true, recurses := true, apart := false }
def TeethNeighboursSaid : Prop := teethNeighboursRow.holds Try.pinned (OpenSpec.ofChange teethNeighboursSpec)

/-- ITS FALSE NEIGHBOUR: 'it returns false'. Refute it at one input. -/
def teethNeighboursWrong : ChangeSpec := { name := "teethNeighbours", fn := fun _ => fun
  | [d] => { results := [.lit (.bool false)], args := [d] }
  | _ => none }
def TeethNeighboursWrongFalsely : Prop := teethNeighboursRow.holds Try.pinned (OpenSpec.ofChange teethNeighboursWrong)

/-- 'bolsterlaw11.TeethMiddle': WHATEVER THE INPUT: true; the input reads as it did. -/
def teethMiddleSpec : ChangeSpec := { name := "teethMiddle", fn := fun _ => fun
  | [d1, d2] => { results := [.lit (.bool true)], args := [d1, d2] }
  | _ => none }
def teethMiddleRow : OpenClaim := { program := "ytbehfhmdilifkaa", sum := "b8c0a1c14ec2a2ee7687bfbf9aefffbb7c5adc7edd77084e613945b7220c5af3", func := "bolster/bolsterlaw11.TeethMiddle", spec := "teethMiddle", inPlace := ["internal/abi.NoEscape", "internal/bytealg.MakeNoZero"], unfollowed := true, recurses := true, apart := false }
def TeethMiddleSaid : Prop := teethMiddleRow.holds Try.pinned (OpenSpec.ofChange teethMiddleSpec)

/-- ITS FALSE NEIGHBOUR: 'it returns false'. Refute it at one input. -/
def teethMiddleWrong : ChangeSpec := { name := "teethMiddle", fn := fun _ => fun
  | [d1, d2] => { results := [.lit (.bool false)], args := [d1, d2] }
  | _ => none }
def TeethMiddleWrongFalsely : Prop := teethMiddleRow.holds Try.pinned (OpenSpec.ofChange teethMiddleWrong)

/-- 'bolsterlaw11.TeethDigits': WHATEVER THE INPUT: true; the input reads as it did. -/
def teethDigitsSpec : ChangeSpec := { name := "teethDigits", fn := fun _ => fun
  | [d1, d2] => { results := [.lit (.bool true)], args := [d1, d2] }
  | _ => none }
def teethDigitsRow : OpenClaim := { program := "ytbehfhmdilifkaa", sum := "b8c0a1c14ec2a2ee7687bfbf9aefffbb7c5adc7edd77084e613945b7220c5af3", func := "bolster/bolsterlaw11.TeethDigits", spec := "teethDigits", inPlace := ["internal/abi.NoEscape", "internal/bytealg.MakeNoZero"], unfollowed := true, recurses := true, apart := false }
def TeethDigitsSaid : Prop := teethDigitsRow.holds Try.pinned (OpenSpec.ofChange teethDigitsSpec)

/-- ITS FALSE NEIGHBOUR: 'it returns false'. Refute it at one input. -/
def teethDigitsWrong : ChangeSpec := { name := "teethDigits", fn := fun _ => fun
  | [d1, d2] => { results := [.lit (.bool false)], args := [d1, d2] }
  | _ => none }
def TeethDigitsWrongFalsely : Prop := teethDigitsRow.holds Try.pinned (OpenSpec.ofChange teethDigitsWrong)

/-- 'bolsterlaw11.TeethNumbers': WHATEVER THE INPUT: true; the input reads as it did. -/
def teethNumbersSpec : ChangeSpec := { name := "teethNumbers", fn := fun _ => fun
  | [d1, d2] => { results := [.lit (.bool true)], args := [d1, d2] }
  | _ => none }
def teethNumbersRow : OpenClaim := { program := "ytbehfhmdilifkaa", sum := "b8c0a1c14ec2a2ee7687bfbf9aefffbb7c5adc7edd77084e613945b7220c5af3", func := "bolster/bolsterlaw11.TeethNumbers", spec := "teethNumbers", inPlace := ["internal/abi.NoEscape", "internal/bytealg.MakeNoZero"], unfollowed := true, recurses := true, apart := false }
def TeethNumbersSaid : Prop := teethNumbersRow.holds Try.pinned (OpenSpec.ofChange teethNumbersSpec)

/-- ITS FALSE NEIGHBOUR: 'it returns false'. Refute it at one input. -/
def teethNumbersWrong : ChangeSpec := { name := "teethNumbers", fn := fun _ => fun
  | [d1, d2] => { results := [.lit (.bool false)], args := [d1, d2] }
  | _ => none }
def TeethNumbersWrongFalsely : Prop := teethNumbersRow.holds Try.pinned (OpenSpec.ofChange teethNumbersWrong)

/-- 'bolsterlaw11.TeethOstrowski': WHATEVER THE INPUT: true; the input reads as it did. -/
def teethOstrowskiSpec : ChangeSpec := { name := "teethOstrowski", fn := fun _ => fun
  | [d1, d2] => { results := [.lit (.bool true)], args := [d1, d2] }
  | _ => none }
def teethOstrowskiRow : OpenClaim := { program := "ytbehfhmdilifkaa", sum := "b8c0a1c14ec2a2ee7687bfbf9aefffbb7c5adc7edd77084e613945b7220c5af3", func := "bolster/bolsterlaw11.TeethOstrowski", spec := "teethOstrowski", inPlace := ["internal/abi.NoEscape", "internal/bytealg.MakeNoZero"], unfollowed := true, recurses := true, apart := false }
def TeethOstrowskiSaid : Prop := teethOstrowskiRow.holds Try.pinned (OpenSpec.ofChange teethOstrowskiSpec)

/-- ITS FALSE NEIGHBOUR: 'it returns false'. Refute it at one input. -/
def teethOstrowskiWrong : ChangeSpec := { name := "teethOstrowski", fn := fun _ => fun
  | [d1, d2] => { results := [.lit (.bool false)], args := [d1, d2] }
  | _ => none }
def TeethOstrowskiWrongFalsely : Prop := teethOstrowskiRow.holds Try.pinned (OpenSpec.ofChange teethOstrowskiWrong)

/- THE SECOND FORM. 'bulk': how many values and letters a reading holds, each counted each time it is reached (what is shared counts as often as it is met; a slice's spare places count too). A statement '..UptoSaid' is the law's where the arguments, and the package variables that the reading takes, are together of bulk at most 1048576: NARROWER than '..Said'. Prove '..Said' where nothing that the law and all that it calls make is longer than what came in: it says more and counts as full. Else prove '..UptoSaid'. A law counts once. -/
mutual
def uptoBulk {H : Type} : DataW H → Nat
  | .lit (.string bytes) => bytes.length + 1
  | .lit _ => 1
  | .nil => 1
  | .ptr d => uptoBulk d + 1
  | .slice elems spare => uptoBulkAll elems + uptoBulkAll spare + 1
  | .agg parts => uptoBulkAll parts + 1
  | .iface _ d => uptoBulk d + 1
  | .map entries => uptoBulkEntries entries + 1
  | .held _ => 1
def uptoBulkAll {H : Type} : List (DataW H) → Nat
  | [] => 0
  | d :: r => uptoBulk d + uptoBulkAll r
def uptoBulkEntries {H : Type} : List (Lit × DataW H) → Nat
  | [] => 0
  | x :: r => uptoBulkEntry x + uptoBulkEntries r
def uptoBulkEntry {H : Type} : Lit × DataW H → Nat
  | (.string bytes, d) => bytes.length + uptoBulk d + 1
  | (_, d) => uptoBulk d + 1
 end
def uptoSmall : (H : Type) → List (DataW H) → Bool := fun _ ds => decide (uptoBulkAll ds ≤ 1048576)
def OpenSpec.upto (s : _root_.Go.ChangeSpec) : _root_.Go.OpenSpec := { _root_.Go.OpenSpec.ofChange s with cond := some uptoSmall }

/-- 'bolsterlaw11.TeethTerms', WHERE WHAT IT READS IS OF BULK AT MOST 1048576: true; the input reads as it did. -/
def teethTermsUptoRow : OpenClaim := { program := "ytbehfhmdilifkaa", sum := "b8c0a1c14ec2a2ee7687bfbf9aefffbb7c5adc7edd77084e613945b7220c5af3", func := "bolster/bolsterlaw11.TeethTerms", spec := "teethTerms", inPlace := ["internal/abi.NoEscape", "internal/bytealg.MakeNoZero"], unfollowed := true, recurses := true, apart := false, narrowed := true }
def TeethTermsUptoSaid : Prop := teethTermsUptoRow.holds Try.pinned (OpenSpec.upto teethTermsSpec)

/-- 'bolsterlaw11.TeethNears', WHERE WHAT IT READS IS OF BULK AT MOST 1048576: true; the input reads as it did. -/
def teethNearsUptoRow : OpenClaim := { program := "ytbehfhmdilifkaa", sum := "b8c0a1c14ec2a2ee7687bfbf9aefffbb7c5adc7edd77084e613945b7220c5af3", func := "bolster/bolsterlaw11.TeethNears", spec := "teethNears", inPlace := ["internal/abi.NoEscape", "internal/bytealg.MakeNoZero"], unfollowed := true, recurses := true, apart := false, narrowed := true }
def TeethNearsUptoSaid : Prop := teethNearsUptoRow.holds Try.pinned (OpenSpec.upto teethNearsSpec)

/-- 'bolsterlaw11.TeethRoots', WHERE WHAT IT READS IS OF BULK AT MOST 1048576: true; the input reads as it did. -/
def teethRootsUptoRow : OpenClaim := { program := "ytbehfhmdilifkaa", sum := "b8c0a1c14ec2a2ee7687bfbf9aefffbb7c5adc7edd77084e613945b7220c5af3", func := "bolster/bolsterlaw11.TeethRoots", spec := "teethRoots", inPlace := ["internal/abi.NoEscape", "internal/bytealg.MakeNoZero"], unfollowed := true, recurses := true, apart := false, narrowed := true }
def TeethRootsUptoSaid : Prop := teethRootsUptoRow.holds Try.pinned (OpenSpec.upto teethRootsSpec)

/-- 'bolsterlaw11.TeethPells', WHERE WHAT IT READS IS OF BULK AT MOST 1048576: true; the input reads as it did. -/
def teethPellsUptoRow : OpenClaim := { program := "ytbehfhmdilifkaa", sum := "b8c0a1c14ec2a2ee7687bfbf9aefffbb7c5adc7edd77084e613945b7220c5af3", func := "bolster/bolsterlaw11.TeethPells", spec := "teethPells", inPlace := ["internal/abi.NoEscape", "internal/bytealg.MakeNoZero"], unfollowed := true, recurses := true, apart := false, narrowed := true }
def TeethPellsUptoSaid : Prop := teethPellsUptoRow.holds Try.pinned (OpenSpec.upto teethPellsSpec)

/-- 'bolsterlaw11.TeethBeats', WHERE WHAT IT READS IS OF BULK AT MOST 1048576: true; the input reads as it did. -/
def teethBeatsUptoRow : OpenClaim := { program := "ytbehfhmdilifkaa", sum := "b8c0a1c14ec2a2ee7687bfbf9aefffbb7c5adc7edd77084e613945b7220c5af3", func := "bolster/bolsterlaw11.TeethBeats", spec := "teethBeats", inPlace := ["internal/abi.NoEscape", "internal/bytealg.MakeNoZero"], unfollowed := true, recurses := true, apart := false, narrowed := true }
def TeethBeatsUptoSaid : Prop := teethBeatsUptoRow.holds Try.pinned (OpenSpec.upto teethBeatsSpec)

/-- 'bolsterlaw11.TeethMarkovs', WHERE WHAT IT READS IS OF BULK AT MOST 1048576: true; the input reads as it did. -/
def teethMarkovsUptoRow : OpenClaim := { program := "ytbehfhmdilifkaa", sum := "b8c0a1c14ec2a2ee7687bfbf9aefffbb7c5adc7edd77084e613945b7220c5af3", func := "bolster/bolsterlaw11.TeethMarkovs", spec := "teethMarkovs", inPlace := ["internal/abi.NoEscape", "internal/bytealg.MakeNoZero"], unfollowed := true, recurses := true, apart := false, narrowed := true }
def TeethMarkovsUptoSaid : Prop := teethMarkovsUptoRow.holds Try.pinned (OpenSpec.upto teethMarkovsSpec)

/-- 'bolsterlaw11.TeethBest', WHERE WHAT IT READS IS OF BULK AT MOST 1048576: true; the input reads as it did. -/
def teethBestUptoRow : OpenClaim := { program := "ytbehfhmdilifkaa", sum := "b8c0a1c14ec2a2ee7687bfbf9aefffbb7c5adc7edd77084e613945b7220c5af3", func := "bolster/bolsterlaw11.TeethBest", spec := "teethBest", inPlace := ["internal/abi.NoEscape", "internal/bytealg.MakeNoZero"], unfollowed := true, recurses := true, apart := false, narrowed := true }
def TeethBestUptoSaid : Prop := teethBestUptoRow.holds Try.pinned (OpenSpec.upto teethBestSpec)

/-- 'bolsterlaw11.TeethClosest', WHERE WHAT IT READS IS OF BULK AT MOST 1048576: true; the input reads as it did. -/
def teethClosestUptoRow : OpenClaim := { program := "ytbehfhmdilifkaa", sum := "b8c0a1c14ec2a2ee7687bfbf9aefffbb7c5adc7edd77084e613945b7220c5af3", func := "bolster/bolsterlaw11.TeethClosest", spec := "teethClosest", inPlace := ["internal/abi.NoEscape", "internal/bytealg.MakeNoZero"], unfollowed := true, recurses := true, apart := false, narrowed := true }
def TeethClosestUptoSaid : Prop := teethClosestUptoRow.holds Try.pinned (OpenSpec.upto teethClosestSpec)

/-- 'bolsterlaw11.TeethLagrange', WHERE WHAT IT READS IS OF BULK AT MOST 1048576: true; the input reads as it did. -/
def teethLagrangeUptoRow : OpenClaim := { program := "ytbehfhmdilifkaa", sum := "b8c0a1c14ec2a2ee7687bfbf9aefffbb7c5adc7edd77084e613945b7220c5af3", func := "bolster/bolsterlaw11.TeethLagrange", spec := "teethLagrange", inPlace := ["internal/abi.NoEscape", "internal/bytealg.MakeNoZero"], unfollowed := true, recurses := true, apart := false, narrowed := true }
def TeethLagrangeUptoSaid : Prop := teethLagrangeUptoRow.holds Try.pinned (OpenSpec.upto teethLagrangeSpec)

/-- 'bolsterlaw11.TeethRayleigh', WHERE WHAT IT READS IS OF BULK AT MOST 1048576: true; the input reads as it did. -/
def teethRayleighUptoRow : OpenClaim := { program := "ytbehfhmdilifkaa", sum := "b8c0a1c14ec2a2ee7687bfbf9aefffbb7c5adc7edd77084e613945b7220c5af3", func := "bolster/bolsterlaw11.TeethRayleigh", spec := "teethRayleigh", inPlace := ["internal/abi.NoEscape", "internal/bytealg.MakeNoZero"], unfollowed := true, recurses := true, apart := false, narrowed := true }
def TeethRayleighUptoSaid : Prop := teethRayleighUptoRow.holds Try.pinned (OpenSpec.upto teethRayleighSpec)

/-- 'bolsterlaw11.TeethTriples', WHERE WHAT IT READS IS OF BULK AT MOST 1048576: true; the input reads as it did. -/
def teethTriplesUptoRow : OpenClaim := { program := "ytbehfhmdilifkaa", sum := "b8c0a1c14ec2a2ee7687bfbf9aefffbb7c5adc7edd77084e613945b7220c5af3", func := "bolster/bolsterlaw11.TeethTriples", spec := "teethTriples", inPlace := ["internal/abi.NoEscape", "internal/bytealg.MakeNoZero"], unfollowed := true, recurses := true, apart := false, narrowed := true }
def TeethTriplesUptoSaid : Prop := teethTriplesUptoRow.holds Try.pinned (OpenSpec.upto teethTriplesSpec)

/-- 'bolsterlaw11.TeethScaled', WHERE WHAT IT READS IS OF BULK AT MOST 1048576: true; the input reads as it did. -/
def teethScaledUptoRow : OpenClaim := { program := "ytbehfhmdilifkaa", sum := "b8c0a1c14ec2a2ee7687bfbf9aefffbb7c5adc7edd77084e613945b7220c5af3", func := "bolster/bolsterlaw11.TeethScaled", spec := "teethScaled", inPlace := ["internal/abi.NoEscape", "internal/bytealg.MakeNoZero"], unfollowed := true, recurses := true, apart := false, narrowed := true }
def TeethScaledUptoSaid : Prop := teethScaledUptoRow.holds Try.pinned (OpenSpec.upto teethScaledSpec)

/-- 'bolsterlaw11.TeethBetweens', WHERE WHAT IT READS IS OF BULK AT MOST 1048576: true; the input reads as it did. -/
def teethBetweensUptoRow : OpenClaim := { program := "ytbehfhmdilifkaa", sum := "b8c0a1c14ec2a2ee7687bfbf9aefffbb7c5adc7edd77084e613945b7220c5af3", func := "bolster/bolsterlaw11.TeethBetweens", spec := "teethBetweens", inPlace := ["internal/abi.NoEscape", "internal/bytealg.MakeNoZero"], unfollowed := true, recurses := true, apart := false, narrowed := true }
def TeethBetweensUptoSaid : Prop := teethBetweensUptoRow.holds Try.pinned (OpenSpec.upto teethBetweensSpec)

/-- 'bolsterlaw11.TeethNeighbours', WHERE WHAT IT READS IS OF BULK AT MOST 1048576: true; the input reads as it did. -/
def teethNeighboursUptoRow : OpenClaim := { program := "ytbehfhmdilifkaa", sum := "b8c0a1c14ec2a2ee7687bfbf9aefffbb7c5adc7edd77084e613945b7220c5af3", func := "bolster/bolsterlaw11.TeethNeighbours", spec := "teethNeighbours", inPlace := ["internal/abi.NoEscape", "internal/bytealg.MakeNoZero"], unfollowed := true, recurses := true, apart := false, narrowed := true }
def TeethNeighboursUptoSaid : Prop := teethNeighboursUptoRow.holds Try.pinned (OpenSpec.upto teethNeighboursSpec)

/-- 'bolsterlaw11.TeethMiddle', WHERE WHAT IT READS IS OF BULK AT MOST 1048576: true; the input reads as it did. -/
def teethMiddleUptoRow : OpenClaim := { program := "ytbehfhmdilifkaa", sum := "b8c0a1c14ec2a2ee7687bfbf9aefffbb7c5adc7edd77084e613945b7220c5af3", func := "bolster/bolsterlaw11.TeethMiddle", spec := "teethMiddle", inPlace := ["internal/abi.NoEscape", "internal/bytealg.MakeNoZero"], unfollowed := true, recurses := true, apart := false, narrowed := true }
def TeethMiddleUptoSaid : Prop := teethMiddleUptoRow.holds Try.pinned (OpenSpec.upto teethMiddleSpec)

/-- 'bolsterlaw11.TeethDigits', WHERE WHAT IT READS IS OF BULK AT MOST 1048576: true; the input reads as it did. -/
def teethDigitsUptoRow : OpenClaim := { program := "ytbehfhmdilifkaa", sum := "b8c0a1c14ec2a2ee7687bfbf9aefffbb7c5adc7edd77084e613945b7220c5af3", func := "bolster/bolsterlaw11.TeethDigits", spec := "teethDigits", inPlace := ["internal/abi.NoEscape", "internal/bytealg.MakeNoZero"], unfollowed := true, recurses := true, apart := false, narrowed := true }
def TeethDigitsUptoSaid : Prop := teethDigitsUptoRow.holds Try.pinned (OpenSpec.upto teethDigitsSpec)

/-- 'bolsterlaw11.TeethNumbers', WHERE WHAT IT READS IS OF BULK AT MOST 1048576: true; the input reads as it did. -/
def teethNumbersUptoRow : OpenClaim := { program := "ytbehfhmdilifkaa", sum := "b8c0a1c14ec2a2ee7687bfbf9aefffbb7c5adc7edd77084e613945b7220c5af3", func := "bolster/bolsterlaw11.TeethNumbers", spec := "teethNumbers", inPlace := ["internal/abi.NoEscape", "internal/bytealg.MakeNoZero"], unfollowed := true, recurses := true, apart := false, narrowed := true }
def TeethNumbersUptoSaid : Prop := teethNumbersUptoRow.holds Try.pinned (OpenSpec.upto teethNumbersSpec)

/-- 'bolsterlaw11.TeethOstrowski', WHERE WHAT IT READS IS OF BULK AT MOST 1048576: true; the input reads as it did. -/
def teethOstrowskiUptoRow : OpenClaim := { program := "ytbehfhmdilifkaa", sum := "b8c0a1c14ec2a2ee7687bfbf9aefffbb7c5adc7edd77084e613945b7220c5af3", func := "bolster/bolsterlaw11.TeethOstrowski", spec := "teethOstrowski", inPlace := ["internal/abi.NoEscape", "internal/bytealg.MakeNoZero"], unfollowed := true, recurses := true, apart := false, narrowed := true }
def TeethOstrowskiUptoSaid : Prop := teethOstrowskiUptoRow.holds Try.pinned (OpenSpec.upto teethOstrowskiSpec)

end Rows
end Go.Proofs.Ytbehfhmdilifkaa

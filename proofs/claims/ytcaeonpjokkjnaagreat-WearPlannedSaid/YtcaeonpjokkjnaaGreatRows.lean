/-
  No cell of these rows narrows 'for every input' (looked for: loops, veiled, ifaces, maps, wideKeys, modest, calm, conditions, laid).
  DERIVED. THE GIVEN ROWS OF THIS SEAT. 7 by the template 'for every input the law returns true; each argument reads behind the call as it read before'; 0 by the template 'total and deterministic' (their statements: YtcaeonpjokkjnaaGreatTotals.lean).
  GIVEN WITH THE SEED: the statements are not yours to turn. If you find one false, say at which input.
  Laid BY PROGRAM, IN A SANDBOX (cutbox-rows.mjs): the forced cells as the released guide's own fill.sh prints them over the translation 5ad8255063201ba1… (all of the seat's roots in one cut). By AI agents, Wed Nov 11 2026. No macro, syntax, notation, axiom, sorry.
-/
import Derived.Test.YtcaeonpjokkjnaaGreatChecked
import GoSem.Claim
import GoSem.ClaimJoined
import GoSem.ClaimMapViews
import Derived.JoinedTies
import Derived.KernelRfl
namespace Go.Proofs.YtcaeonpjokkjnaaGreat
/- THE CELL 'sum', in the pinned program and in every row, IS THE sha256 OF THE DUMP (.gsa) THAT YtcaeonpjokkjnaaGreatProg.lean LOADS. Nothing in Lean hashes anything: it is a label: what it is worth is what the hold of that sum in a sandbox is worth. -/
noncomputable def Tryz.pinned : Pinned := { name := "ytcaeonpjokkjnaagreat", sum := "5ad8255063201ba152684922146b4e348859d61e871150298c3164340ff74ce3", checked := Tryz.checked }
namespace Rows
def none {H : Type} : Left H := { results := [], args := [] }

/-- 'bolsterlaw04.WearRenews': WHATEVER THE INPUT: true; the input reads as it did. -/
def wearRenewsSpec : ChangeSpec := { name := "wearRenews", fn := fun _ => fun
  | [d1, d2] => { results := [.lit (.bool true)], args := [d1, d2] }
  | _ => none }
def wearRenewsRow : OpenClaim := { program := "ytcaeonpjokkjnaagreat", sum := "5ad8255063201ba152684922146b4e348859d61e871150298c3164340ff74ce3", func := "bolster/bolsterlaw04.WearRenews", spec := "wearRenews", inPlace := ["internal/bytealg.IndexByteString", "internal/bytealg.IndexString"], unfollowed := true, recurses := true, named := ["internal/bytealg.MaxLen"], apart := false }
def WearRenewsSaid : Prop := wearRenewsRow.holds Tryz.pinned (OpenSpec.ofChange wearRenewsSpec)

/-- ITS FALSE NEIGHBOUR: 'it returns false'. Refute it at one input. -/
def wearRenewsWrong : ChangeSpec := { name := "wearRenews", fn := fun _ => fun
  | [d1, d2] => { results := [.lit (.bool false)], args := [d1, d2] }
  | _ => none }
def WearRenewsWrongFalsely : Prop := wearRenewsRow.holds Tryz.pinned (OpenSpec.ofChange wearRenewsWrong)

/-- 'bolsterlaw04.WearRates': WHATEVER THE INPUT: true; the input reads as it did. -/
def wearRatesSpec : ChangeSpec := { name := "wearRates", fn := fun _ => fun
  | [d1, d2] => { results := [.lit (.bool true)], args := [d1, d2] }
  | _ => none }
def wearRatesRow : OpenClaim := { program := "ytcaeonpjokkjnaagreat", sum := "5ad8255063201ba152684922146b4e348859d61e871150298c3164340ff74ce3", func := "bolster/bolsterlaw04.WearRates", spec := "wearRates", inPlace := ["internal/bytealg.IndexByteString", "internal/bytealg.IndexString"], unfollowed := true, recurses := true, named := ["internal/bytealg.MaxLen"], apart := false }
def WearRatesSaid : Prop := wearRatesRow.holds Tryz.pinned (OpenSpec.ofChange wearRatesSpec)

/-- ITS FALSE NEIGHBOUR: 'it returns false'. Refute it at one input. -/
def wearRatesWrong : ChangeSpec := { name := "wearRates", fn := fun _ => fun
  | [d1, d2] => { results := [.lit (.bool false)], args := [d1, d2] }
  | _ => none }
def WearRatesWrongFalsely : Prop := wearRatesRow.holds Tryz.pinned (OpenSpec.ofChange wearRatesWrong)

/-- 'bolsterlaw04.WearAges': WHATEVER THE INPUT: true; the input reads as it did. -/
def wearAgesSpec : ChangeSpec := { name := "wearAges", fn := fun _ => fun
  | [d1, d2] => { results := [.lit (.bool true)], args := [d1, d2] }
  | _ => none }
def wearAgesRow : OpenClaim := { program := "ytcaeonpjokkjnaagreat", sum := "5ad8255063201ba152684922146b4e348859d61e871150298c3164340ff74ce3", func := "bolster/bolsterlaw04.WearAges", spec := "wearAges", inPlace := ["internal/bytealg.IndexByteString", "internal/bytealg.IndexString"], unfollowed := true, recurses := true, named := ["internal/bytealg.MaxLen"], apart := false }
def WearAgesSaid : Prop := wearAgesRow.holds Tryz.pinned (OpenSpec.ofChange wearAgesSpec)

/-- ITS FALSE NEIGHBOUR: 'it returns false'. Refute it at one input. -/
def wearAgesWrong : ChangeSpec := { name := "wearAges", fn := fun _ => fun
  | [d1, d2] => { results := [.lit (.bool false)], args := [d1, d2] }
  | _ => none }
def WearAgesWrongFalsely : Prop := wearAgesRow.holds Tryz.pinned (OpenSpec.ofChange wearAgesWrong)

/-- 'bolsterlaw04.WearPlanned': WHATEVER THE INPUT: true; the input reads as it did. -/
def wearPlannedSpec : ChangeSpec := { name := "wearPlanned", fn := fun _ => fun
  | [d1, d2] => { results := [.lit (.bool true)], args := [d1, d2] }
  | _ => none }
def wearPlannedRow : OpenClaim := { program := "ytcaeonpjokkjnaagreat", sum := "5ad8255063201ba152684922146b4e348859d61e871150298c3164340ff74ce3", func := "bolster/bolsterlaw04.WearPlanned", spec := "wearPlanned", inPlace := ["internal/bytealg.IndexByteString", "internal/bytealg.IndexString"], unfollowed := true, recurses := true, named := ["internal/bytealg.MaxLen"], apart := false }
def WearPlannedSaid : Prop := wearPlannedRow.holds Tryz.pinned (OpenSpec.ofChange wearPlannedSpec)

/-- ITS FALSE NEIGHBOUR: 'it returns false'. Refute it at one input. -/
def wearPlannedWrong : ChangeSpec := { name := "wearPlanned", fn := fun _ => fun
  | [d1, d2] => { results := [.lit (.bool false)], args := [d1, d2] }
  | _ => none }
def WearPlannedWrongFalsely : Prop := wearPlannedRow.holds Tryz.pinned (OpenSpec.ofChange wearPlannedWrong)

/-- 'bolsterlaw04.WearBacks': WHATEVER THE INPUT: true; the input reads as it did. -/
def wearBacksSpec : ChangeSpec := { name := "wearBacks", fn := fun _ => fun
  | [d] => { results := [.lit (.bool true)], args := [d] }
  | _ => none }
def wearBacksRow : OpenClaim := { program := "ytcaeonpjokkjnaagreat", sum := "5ad8255063201ba152684922146b4e348859d61e871150298c3164340ff74ce3", func := "bolster/bolsterlaw04.WearBacks", spec := "wearBacks", inPlace := ["internal/bytealg.IndexByteString", "internal/bytealg.IndexString"], unfollowed := true, recurses := true, named := ["internal/bytealg.MaxLen"], apart := false }
def WearBacksSaid : Prop := wearBacksRow.holds Tryz.pinned (OpenSpec.ofChange wearBacksSpec)

/-- ITS FALSE NEIGHBOUR: 'it returns false'. Refute it at one input. -/
def wearBacksWrong : ChangeSpec := { name := "wearBacks", fn := fun _ => fun
  | [d] => { results := [.lit (.bool false)], args := [d] }
  | _ => none }
def WearBacksWrongFalsely : Prop := wearBacksRow.holds Tryz.pinned (OpenSpec.ofChange wearBacksWrong)

/-- 'bolsterlaw04.WearMeans': WHATEVER THE INPUT: true; the input reads as it did. -/
def wearMeansSpec : ChangeSpec := { name := "wearMeans", fn := fun _ => fun
  | [d] => { results := [.lit (.bool true)], args := [d] }
  | _ => none }
def wearMeansRow : OpenClaim := { program := "ytcaeonpjokkjnaagreat", sum := "5ad8255063201ba152684922146b4e348859d61e871150298c3164340ff74ce3", func := "bolster/bolsterlaw04.WearMeans", spec := "wearMeans", inPlace := ["internal/bytealg.IndexByteString", "internal/bytealg.IndexString"], unfollowed := true, recurses := true, named := ["internal/bytealg.MaxLen"], apart := false }
def WearMeansSaid : Prop := wearMeansRow.holds Tryz.pinned (OpenSpec.ofChange wearMeansSpec)

/-- ITS FALSE NEIGHBOUR: 'it returns false'. Refute it at one input. -/
def wearMeansWrong : ChangeSpec := { name := "wearMeans", fn := fun _ => fun
  | [d] => { results := [.lit (.bool false)], args := [d] }
  | _ => none }
def WearMeansWrongFalsely : Prop := wearMeansRow.holds Tryz.pinned (OpenSpec.ofChange wearMeansWrong)

/-- 'bolsterlaw04.WearSpares': WHATEVER THE INPUT: true; the input reads as it did. -/
def wearSparesSpec : ChangeSpec := { name := "wearSpares", fn := fun _ => fun
  | [d1, d2, d3] => { results := [.lit (.bool true)], args := [d1, d2, d3] }
  | _ => none }
def wearSparesRow : OpenClaim := { program := "ytcaeonpjokkjnaagreat", sum := "5ad8255063201ba152684922146b4e348859d61e871150298c3164340ff74ce3", func := "bolster/bolsterlaw04.WearSpares", spec := "wearSpares", inPlace := ["internal/bytealg.IndexByteString", "internal/bytealg.IndexString"], unfollowed := true, recurses := true, named := ["internal/bytealg.MaxLen"], apart := false }
def WearSparesSaid : Prop := wearSparesRow.holds Tryz.pinned (OpenSpec.ofChange wearSparesSpec)

/-- ITS FALSE NEIGHBOUR: 'it returns false'. Refute it at one input. -/
def wearSparesWrong : ChangeSpec := { name := "wearSpares", fn := fun _ => fun
  | [d1, d2, d3] => { results := [.lit (.bool false)], args := [d1, d2, d3] }
  | _ => none }
def WearSparesWrongFalsely : Prop := wearSparesRow.holds Tryz.pinned (OpenSpec.ofChange wearSparesWrong)

/- THE SECOND FORM. 'bulk': how many values and letters a reading holds, each counted each time it is reached (what is shared counts as often as it is met; a slice's spare places count too). A statement '..UptoSaid' is the law's where the arguments, and the package variables that the reading takes, are together of bulk at most 1048576: NARROWER than '..Said'. Prove '..Said' where nothing that the law and all that it calls make is longer than what came in: it says more and counts as full. Else prove '..UptoSaid'. A law counts once. -/
mutual
def uptoBulk {H : Type} : DataW H → Nat
  | .lit (.string bytes) => bytes.length + 1
  | .lit _ => 1
  | .nil => 1
  | .ptr d => uptoBulk d + 1
  | .slice elems spare => uptoBulkAll elems + uptoBulkAll spare + 1
  | .agg parts => uptoBulkAll parts + 1
  | .iface _ d => uptoBulk d + 1
  | .map entries => uptoBulkEntries entries + 1
  | .held _ => 1
def uptoBulkAll {H : Type} : List (DataW H) → Nat
  | [] => 0
  | d :: r => uptoBulk d + uptoBulkAll r
def uptoBulkEntries {H : Type} : List (Lit × DataW H) → Nat
  | [] => 0
  | x :: r => uptoBulkEntry x + uptoBulkEntries r
def uptoBulkEntry {H : Type} : Lit × DataW H → Nat
  | (.string bytes, d) => bytes.length + uptoBulk d + 1
  | (_, d) => uptoBulk d + 1
 end
def uptoSmall : (H : Type) → List (DataW H) → Bool := fun _ ds => decide (uptoBulkAll ds ≤ 1048576)
def OpenSpec.upto (s : _root_.Go.ChangeSpec) : _root_.Go.OpenSpec := { _root_.Go.OpenSpec.ofChange s with cond := some uptoSmall }

/-- 'bolsterlaw04.WearRenews', WHERE WHAT IT READS IS OF BULK AT MOST 1048576: true; the input reads as it did. -/
def wearRenewsUptoRow : OpenClaim := { program := "ytcaeonpjokkjnaagreat", sum := "5ad8255063201ba152684922146b4e348859d61e871150298c3164340ff74ce3", func := "bolster/bolsterlaw04.WearRenews", spec := "wearRenews", inPlace := ["internal/bytealg.IndexByteString", "internal/bytealg.IndexString"], unfollowed := true, recurses := true, named := ["internal/bytealg.MaxLen"], apart := false, narrowed := true }
def WearRenewsUptoSaid : Prop := wearRenewsUptoRow.holds Tryz.pinned (OpenSpec.upto wearRenewsSpec)

/-- 'bolsterlaw04.WearRates', WHERE WHAT IT READS IS OF BULK AT MOST 1048576: true; the input reads as it did. -/
def wearRatesUptoRow : OpenClaim := { program := "ytcaeonpjokkjnaagreat", sum := "5ad8255063201ba152684922146b4e348859d61e871150298c3164340ff74ce3", func := "bolster/bolsterlaw04.WearRates", spec := "wearRates", inPlace := ["internal/bytealg.IndexByteString", "internal/bytealg.IndexString"], unfollowed := true, recurses := true, named := ["internal/bytealg.MaxLen"], apart := false, narrowed := true }
def WearRatesUptoSaid : Prop := wearRatesUptoRow.holds Tryz.pinned (OpenSpec.upto wearRatesSpec)

/-- 'bolsterlaw04.WearAges', WHERE WHAT IT READS IS OF BULK AT MOST 1048576: true; the input reads as it did. -/
def wearAgesUptoRow : OpenClaim := { program := "ytcaeonpjokkjnaagreat", sum := "5ad8255063201ba152684922146b4e348859d61e871150298c3164340ff74ce3", func := "bolster/bolsterlaw04.WearAges", spec := "wearAges", inPlace := ["internal/bytealg.IndexByteString", "internal/bytealg.IndexString"], unfollowed := true, recurses := true, named := ["internal/bytealg.MaxLen"], apart := false, narrowed := true }
def WearAgesUptoSaid : Prop := wearAgesUptoRow.holds Tryz.pinned (OpenSpec.upto wearAgesSpec)

/-- 'bolsterlaw04.WearPlanned', WHERE WHAT IT READS IS OF BULK AT MOST 1048576: true; the input reads as it did. -/
def wearPlannedUptoRow : OpenClaim := { program := "ytcaeonpjokkjnaagreat", sum := "5ad8255063201ba152684922146b4e348859d61e871150298c3164340ff74ce3", func := "bolster/bolsterlaw04.WearPlanned", spec := "wearPlanned", inPlace := ["internal/bytealg.IndexByteString", "internal/bytealg.IndexString"], unfollowed := true, recurses := true, named := ["internal/bytealg.MaxLen"], apart := false, narrowed := true }
def WearPlannedUptoSaid : Prop := wearPlannedUptoRow.holds Tryz.pinned (OpenSpec.upto wearPlannedSpec)

/-- 'bolsterlaw04.WearBacks', WHERE WHAT IT READS IS OF BULK AT MOST 1048576: true; the input reads as it did. -/
def wearBacksUptoRow : OpenClaim := { program := "ytcaeonpjokkjnaagreat", sum := "5ad8255063201ba152684922146b4e348859d61e871150298c3164340ff74ce3", func := "bolster/bolsterlaw04.WearBacks", spec := "wearBacks", inPlace := ["internal/bytealg.IndexByteString", "internal/bytealg.IndexString"], unfollowed := true, recurses := true, named := ["internal/bytealg.MaxLen"], apart := false, narrowed := true }
def WearBacksUptoSaid : Prop := wearBacksUptoRow.holds Tryz.pinned (OpenSpec.upto wearBacksSpec)

/-- 'bolsterlaw04.WearMeans', WHERE WHAT IT READS IS OF BULK AT MOST 1048576: true; the input reads as it did. -/
def wearMeansUptoRow : OpenClaim := { program := "ytcaeonpjokkjnaagreat", sum := "5ad8255063201ba152684922146b4e348859d61e871150298c3164340ff74ce3", func := "bolster/bolsterlaw04.WearMeans", spec := "wearMeans", inPlace := ["internal/bytealg.IndexByteString", "internal/bytealg.IndexString"], unfollowed := true, recurses := true, named := ["internal/bytealg.MaxLen"], apart := false, narrowed := true }
def WearMeansUptoSaid : Prop := wearMeansUptoRow.holds Tryz.pinned (OpenSpec.upto wearMeansSpec)

/-- 'bolsterlaw04.WearSpares', WHERE WHAT IT READS IS OF BULK AT MOST 1048576: true; the input reads as it did. -/
def wearSparesUptoRow : OpenClaim := { program := "ytcaeonpjokkjnaagreat", sum := "5ad8255063201ba152684922146b4e348859d61e871150298c3164340ff74ce3", func := "bolster/bolsterlaw04.WearSpares", spec := "wearSpares", inPlace := ["internal/bytealg.IndexByteString", "internal/bytealg.IndexString"], unfollowed := true, recurses := true, named := ["internal/bytealg.MaxLen"], apart := false, narrowed := true }
def WearSparesUptoSaid : Prop := wearSparesUptoRow.holds Tryz.pinned (OpenSpec.upto wearSparesSpec)

end Rows
end Go.Proofs.YtcaeonpjokkjnaaGreat

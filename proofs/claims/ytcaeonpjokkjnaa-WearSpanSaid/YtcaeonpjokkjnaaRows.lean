/-
  No cell of these rows narrows 'for every input' (looked for: loops, veiled, ifaces, maps, wideKeys, modest, calm, conditions, laid).
  DERIVED. THE GIVEN ROWS OF THIS SEAT. 5 by the template 'for every input the law returns true; each argument reads behind the call as it read before'; 0 by the template 'total and deterministic' (their statements: YtcaeonpjokkjnaaTotals.lean).
  GIVEN WITH THE SEED: the statements are not yours to turn. If you find one false, say at which input.
  Laid BY PROGRAM, IN A SANDBOX (cutbox-rows.mjs): the forced cells as the released guide's own fill.sh prints them over the translation 3f5bc3dc5229d065… (all of the seat's roots in one cut). By AI agents, Wed Nov 11 2026. No macro, syntax, notation, axiom, sorry.
-/
import Derived.Test.YtcaeonpjokkjnaaChecked
import GoSem.Claim
import GoSem.ClaimJoined
import GoSem.ClaimMapViews
import Derived.JoinedTies
import Derived.KernelRfl
namespace Go.Proofs.Ytcaeonpjokkjnaa
/- THE CELL 'sum', in the pinned program and in every row, IS THE sha256 OF THE DUMP (.gsa) THAT YtcaeonpjokkjnaaProg.lean LOADS. Nothing in Lean hashes anything: it is a label: what it is worth is what the hold of that sum in a sandbox is worth. -/
noncomputable def Try.pinned : Pinned := { name := "ytcaeonpjokkjnaa", sum := "3f5bc3dc5229d065d4a02558ac67904d2f9919ccb9a23a676c628ae8ce4d6f70", checked := Try.checked }
namespace Rows
def none {H : Type} : Left H := { results := [], args := [] }

/-- 'bolsterlaw04.WearSpan': WHATEVER THE INPUT: true; the input reads as it did. -/
def wearSpanSpec : ChangeSpec := { name := "wearSpan", fn := fun _ => fun
  | [d1, d2, d3] => { results := [.lit (.bool true)], args := [d1, d2, d3] }
  | _ => none }
def wearSpanRow : OpenClaim := { program := "ytcaeonpjokkjnaa", sum := "3f5bc3dc5229d065d4a02558ac67904d2f9919ccb9a23a676c628ae8ce4d6f70", func := "bolster/bolsterlaw04.WearSpan", spec := "wearSpan", inPlace := ["internal/bytealg.IndexByteString", "internal/bytealg.IndexString"], unfollowed := true, recurses := true, named := ["internal/bytealg.MaxLen"], apart := false }
def WearSpanSaid : Prop := wearSpanRow.holds Try.pinned (OpenSpec.ofChange wearSpanSpec)

/-- ITS FALSE NEIGHBOUR: 'it returns false'. Refute it at one input. -/
def wearSpanWrong : ChangeSpec := { name := "wearSpan", fn := fun _ => fun
  | [d1, d2, d3] => { results := [.lit (.bool false)], args := [d1, d2, d3] }
  | _ => none }
def WearSpanWrongFalsely : Prop := wearSpanRow.holds Try.pinned (OpenSpec.ofChange wearSpanWrong)

/-- 'bolsterlaw04.WearCosts': WHATEVER THE INPUT: true; the input reads as it did. -/
def wearCostsSpec : ChangeSpec := { name := "wearCosts", fn := fun _ => fun
  | [d1, d2] => { results := [.lit (.bool true)], args := [d1, d2] }
  | _ => none }
def wearCostsRow : OpenClaim := { program := "ytcaeonpjokkjnaa", sum := "3f5bc3dc5229d065d4a02558ac67904d2f9919ccb9a23a676c628ae8ce4d6f70", func := "bolster/bolsterlaw04.WearCosts", spec := "wearCosts", inPlace := ["internal/bytealg.IndexByteString", "internal/bytealg.IndexString"], unfollowed := true, recurses := true, named := ["internal/bytealg.MaxLen"], apart := false }
def WearCostsSaid : Prop := wearCostsRow.holds Try.pinned (OpenSpec.ofChange wearCostsSpec)

/-- ITS FALSE NEIGHBOUR: 'it returns false'. Refute it at one input. -/
def wearCostsWrong : ChangeSpec := { name := "wearCosts", fn := fun _ => fun
  | [d1, d2] => { results := [.lit (.bool false)], args := [d1, d2] }
  | _ => none }
def WearCostsWrongFalsely : Prop := wearCostsRow.holds Try.pinned (OpenSpec.ofChange wearCostsWrong)

/-- 'bolsterlaw04.WearBackAgain': WHATEVER THE INPUT: true; the input reads as it did. -/
def wearBackAgainSpec : ChangeSpec := { name := "wearBackAgain", fn := fun _ => fun
  | [d1, d2] => { results := [.lit (.bool true)], args := [d1, d2] }
  | _ => none }
def wearBackAgainRow : OpenClaim := { program := "ytcaeonpjokkjnaa", sum := "3f5bc3dc5229d065d4a02558ac67904d2f9919ccb9a23a676c628ae8ce4d6f70", func := "bolster/bolsterlaw04.WearBackAgain", spec := "wearBackAgain", inPlace := ["internal/bytealg.IndexByteString", "internal/bytealg.IndexString"], unfollowed := true, recurses := true, named := ["internal/bytealg.MaxLen"], apart := false }
def WearBackAgainSaid : Prop := wearBackAgainRow.holds Try.pinned (OpenSpec.ofChange wearBackAgainSpec)

/-- ITS FALSE NEIGHBOUR: 'it returns false'. Refute it at one input. -/
def wearBackAgainWrong : ChangeSpec := { name := "wearBackAgain", fn := fun _ => fun
  | [d1, d2] => { results := [.lit (.bool false)], args := [d1, d2] }
  | _ => none }
def WearBackAgainWrongFalsely : Prop := wearBackAgainRow.holds Try.pinned (OpenSpec.ofChange wearBackAgainWrong)

/-- 'bolsterlaw04.WearKaluza': WHATEVER THE INPUT: true; the input reads as it did. -/
def wearKaluzaSpec : ChangeSpec := { name := "wearKaluza", fn := fun _ => fun
  | [d] => { results := [.lit (.bool true)], args := [d] }
  | _ => none }
def wearKaluzaRow : OpenClaim := { program := "ytcaeonpjokkjnaa", sum := "3f5bc3dc5229d065d4a02558ac67904d2f9919ccb9a23a676c628ae8ce4d6f70", func := "bolster/bolsterlaw04.WearKaluza", spec := "wearKaluza", inPlace := ["internal/bytealg.IndexByteString", "internal/bytealg.IndexString"], unfollowed := true, recurses := true, named := ["internal/bytealg.MaxLen"], apart := false }
def WearKaluzaSaid : Prop := wearKaluzaRow.holds Try.pinned (OpenSpec.ofChange wearKaluzaSpec)

/-- ITS FALSE NEIGHBOUR: 'it returns false'. Refute it at one input. -/
def wearKaluzaWrong : ChangeSpec := { name := "wearKaluza", fn := fun _ => fun
  | [d] => { results := [.lit (.bool false)], args := [d] }
  | _ => none }
def WearKaluzaWrongFalsely : Prop := wearKaluzaRow.holds Try.pinned (OpenSpec.ofChange wearKaluzaWrong)

/-- 'bolsterlaw04.WearSums': WHATEVER THE INPUT: true; the input reads as it did. -/
def wearSumsSpec : ChangeSpec := { name := "wearSums", fn := fun _ => fun
  | [d1, d2] => { results := [.lit (.bool true)], args := [d1, d2] }
  | _ => none }
def wearSumsRow : OpenClaim := { program := "ytcaeonpjokkjnaa", sum := "3f5bc3dc5229d065d4a02558ac67904d2f9919ccb9a23a676c628ae8ce4d6f70", func := "bolster/bolsterlaw04.WearSums", spec := "wearSums", inPlace := ["internal/bytealg.IndexByteString", "internal/bytealg.IndexString"], unfollowed := true, recurses := true, named := ["internal/bytealg.MaxLen"], apart := false }
def WearSumsSaid : Prop := wearSumsRow.holds Try.pinned (OpenSpec.ofChange wearSumsSpec)

/-- ITS FALSE NEIGHBOUR: 'it returns false'. Refute it at one input. -/
def wearSumsWrong : ChangeSpec := { name := "wearSums", fn := fun _ => fun
  | [d1, d2] => { results := [.lit (.bool false)], args := [d1, d2] }
  | _ => none }
def WearSumsWrongFalsely : Prop := wearSumsRow.holds Try.pinned (OpenSpec.ofChange wearSumsWrong)

/- THE SECOND FORM. 'bulk': how many values and letters a reading holds, each counted each time it is reached (what is shared counts as often as it is met; a slice's spare places count too). A statement '..UptoSaid' is the law's where the arguments, and the package variables that the reading takes, are together of bulk at most 1048576: NARROWER than '..Said'. Prove '..Said' where nothing that the law and all that it calls make is longer than what came in: it says more and counts as full. Else prove '..UptoSaid'. A law counts once. -/
mutual
def uptoBulk {H : Type} : DataW H → Nat
  | .lit (.string bytes) => bytes.length + 1
  | .lit _ => 1
  | .nil => 1
  | .ptr d => uptoBulk d + 1
  | .slice elems spare => uptoBulkAll elems + uptoBulkAll spare + 1
  | .agg parts => uptoBulkAll parts + 1
  | .iface _ d => uptoBulk d + 1
  | .map entries => uptoBulkEntries entries + 1
  | .held _ => 1
def uptoBulkAll {H : Type} : List (DataW H) → Nat
  | [] => 0
  | d :: r => uptoBulk d + uptoBulkAll r
def uptoBulkEntries {H : Type} : List (Lit × DataW H) → Nat
  | [] => 0
  | x :: r => uptoBulkEntry x + uptoBulkEntries r
def uptoBulkEntry {H : Type} : Lit × DataW H → Nat
  | (.string bytes, d) => bytes.length + uptoBulk d + 1
  | (_, d) => uptoBulk d + 1
 end
def uptoSmall : (H : Type) → List (DataW H) → Bool := fun _ ds => decide (uptoBulkAll ds ≤ 1048576)
def OpenSpec.upto (s : _root_.Go.ChangeSpec) : _root_.Go.OpenSpec := { _root_.Go.OpenSpec.ofChange s with cond := some uptoSmall }

/-- 'bolsterlaw04.WearSpan', WHERE WHAT IT READS IS OF BULK AT MOST 1048576: true; the input reads as it did. -/
def wearSpanUptoRow : OpenClaim := { program := "ytcaeonpjokkjnaa", sum := "3f5bc3dc5229d065d4a02558ac67904d2f9919ccb9a23a676c628ae8ce4d6f70", func := "bolster/bolsterlaw04.WearSpan", spec := "wearSpan", inPlace := ["internal/bytealg.IndexByteString", "internal/bytealg.IndexString"], unfollowed := true, recurses := true, named := ["internal/bytealg.MaxLen"], apart := false, narrowed := true }
def WearSpanUptoSaid : Prop := wearSpanUptoRow.holds Try.pinned (OpenSpec.upto wearSpanSpec)

/-- 'bolsterlaw04.WearCosts', WHERE WHAT IT READS IS OF BULK AT MOST 1048576: true; the input reads as it did. -/
def wearCostsUptoRow : OpenClaim := { program := "ytcaeonpjokkjnaa", sum := "3f5bc3dc5229d065d4a02558ac67904d2f9919ccb9a23a676c628ae8ce4d6f70", func := "bolster/bolsterlaw04.WearCosts", spec := "wearCosts", inPlace := ["internal/bytealg.IndexByteString", "internal/bytealg.IndexString"], unfollowed := true, recurses := true, named := ["internal/bytealg.MaxLen"], apart := false, narrowed := true }
def WearCostsUptoSaid : Prop := wearCostsUptoRow.holds Try.pinned (OpenSpec.upto wearCostsSpec)

/-- 'bolsterlaw04.WearBackAgain', WHERE WHAT IT READS IS OF BULK AT MOST 1048576: true; the input reads as it did. -/
def wearBackAgainUptoRow : OpenClaim := { program := "ytcaeonpjokkjnaa", sum := "3f5bc3dc5229d065d4a02558ac67904d2f9919ccb9a23a676c628ae8ce4d6f70", func := "bolster/bolsterlaw04.WearBackAgain", spec := "wearBackAgain", inPlace := ["internal/bytealg.IndexByteString", "internal/bytealg.IndexString"], unfollowed := true, recurses := true, named := ["internal/bytealg.MaxLen"], apart := false, narrowed := true }
def WearBackAgainUptoSaid : Prop := wearBackAgainUptoRow.holds Try.pinned (OpenSpec.upto wearBackAgainSpec)

/-- 'bolsterlaw04.WearKaluza', WHERE WHAT IT READS IS OF BULK AT MOST 1048576: true; the input reads as it did. -/
def wearKaluzaUptoRow : OpenClaim := { program := "ytcaeonpjokkjnaa", sum := "3f5bc3dc5229d065d4a02558ac67904d2f9919ccb9a23a676c628ae8ce4d6f70", func := "bolster/bolsterlaw04.WearKaluza", spec := "wearKaluza", inPlace := ["internal/bytealg.IndexByteString", "internal/bytealg.IndexString"], unfollowed := true, recurses := true, named := ["internal/bytealg.MaxLen"], apart := false, narrowed := true }
def WearKaluzaUptoSaid : Prop := wearKaluzaUptoRow.holds Try.pinned (OpenSpec.upto wearKaluzaSpec)

/-- 'bolsterlaw04.WearSums', WHERE WHAT IT READS IS OF BULK AT MOST 1048576: true; the input reads as it did. -/
def wearSumsUptoRow : OpenClaim := { program := "ytcaeonpjokkjnaa", sum := "3f5bc3dc5229d065d4a02558ac67904d2f9919ccb9a23a676c628ae8ce4d6f70", func := "bolster/bolsterlaw04.WearSums", spec := "wearSums", inPlace := ["internal/bytealg.IndexByteString", "internal/bytealg.IndexString"], unfollowed := true, recurses := true, named := ["internal/bytealg.MaxLen"], apart := false, narrowed := true }
def WearSumsUptoSaid : Prop := wearSumsUptoRow.holds Try.pinned (OpenSpec.upto wearSumsSpec)

end Rows
end Go.Proofs.Ytcaeonpjokkjnaa

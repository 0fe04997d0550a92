/-
  No cell of these rows narrows 'for every input' (looked for: loops, veiled, ifaces, maps, wideKeys, modest, calm, conditions, laid).
  DERIVED. THE GIVEN ROWS OF THIS SEAT. 15 by the template 'for every input the law returns true; each argument reads behind the call as it read before'; 0 by the template 'total and deterministic' (their statements: YteiipfajoikfpaaTotals.lean).
  GIVEN WITH THE SEED: the statements are not yours to turn. If you find one false, say at which input.
  Laid BY PROGRAM, IN A SANDBOX (cutbox-rows.mjs): the forced cells as the released guide's own fill.sh prints them over the translation 5b57e8cafb65620c… (all of the seat's roots in one cut). By AI agents, Wed Nov 11 2026. No macro, syntax, notation, axiom, sorry.
-/
import Derived.Test.YteiipfajoikfpaaChecked
import GoSem.Claim
import GoSem.ClaimJoined
import GoSem.ClaimMapViews
import Derived.JoinedTies
import Derived.KernelRfl
namespace Go.Proofs.Yteiipfajoikfpaa
/- THE CELL 'sum', in the pinned program and in every row, IS THE sha256 OF THE DUMP (.gsa) THAT YteiipfajoikfpaaProg.lean LOADS. Nothing in Lean hashes anything: it is a label: what it is worth is what the hold of that sum in a sandbox is worth. -/
noncomputable def Try.pinned : Pinned := { name := "yteiipfajoikfpaa", sum := "5b57e8cafb65620c7a952e1d0bdeb0401356db73e095eaa80c981de80a5cb76e", checked := Try.checked }
namespace Rows
def none {H : Type} : Left H := { results := [], args := [] }

/-- 'bolsterlaw05.PairCheapests': WHATEVER THE INPUT: true; the input reads as it did. -/
def pairCheapestsSpec : ChangeSpec := { name := "pairCheapests", fn := fun _ => fun
  | [d] => { results := [.lit (.bool true)], args := [d] }
  | _ => none }
def pairCheapestsRow : OpenClaim := { program := "yteiipfajoikfpaa", sum := "5b57e8cafb65620c7a952e1d0bdeb0401356db73e095eaa80c981de80a5cb76e", func := "bolster/bolsterlaw05.PairCheapests", spec := "pairCheapests", unfollowed := true, recurses := true, apart := false }
def PairCheapestsSaid : Prop := pairCheapestsRow.holds Try.pinned (OpenSpec.ofChange pairCheapestsSpec)

/-- ITS FALSE NEIGHBOUR: 'it returns false'. Refute it at one input. -/
def pairCheapestsWrong : ChangeSpec := { name := "pairCheapests", fn := fun _ => fun
  | [d] => { results := [.lit (.bool false)], args := [d] }
  | _ => none }
def PairCheapestsWrongFalsely : Prop := pairCheapestsRow.holds Try.pinned (OpenSpec.ofChange pairCheapestsWrong)

/-- 'bolsterlaw05.PairLacks': WHATEVER THE INPUT: true; the input reads as it did. -/
def pairLacksSpec : ChangeSpec := { name := "pairLacks", fn := fun _ => fun
  | [d1, d2] => { results := [.lit (.bool true)], args := [d1, d2] }
  | _ => none }
def pairLacksRow : OpenClaim := { program := "yteiipfajoikfpaa", sum := "5b57e8cafb65620c7a952e1d0bdeb0401356db73e095eaa80c981de80a5cb76e", func := "bolster/bolsterlaw05.PairLacks", spec := "pairLacks", unfollowed := true, recurses := true, apart := false }
def PairLacksSaid : Prop := pairLacksRow.holds Try.pinned (OpenSpec.ofChange pairLacksSpec)

/-- ITS FALSE NEIGHBOUR: 'it returns false'. Refute it at one input. -/
def pairLacksWrong : ChangeSpec := { name := "pairLacks", fn := fun _ => fun
  | [d1, d2] => { results := [.lit (.bool false)], args := [d1, d2] }
  | _ => none }
def PairLacksWrongFalsely : Prop := pairLacksRow.holds Try.pinned (OpenSpec.ofChange pairLacksWrong)

/-- 'bolsterlaw05.PairCounts': WHATEVER THE INPUT: true; the input reads as it did. -/
def pairCountsSpec : ChangeSpec := { name := "pairCounts", fn := fun _ => fun
  | [d1, d2, d3] => { results := [.lit (.bool true)], args := [d1, d2, d3] }
  | _ => none }
def pairCountsRow : OpenClaim := { program := "yteiipfajoikfpaa", sum := "5b57e8cafb65620c7a952e1d0bdeb0401356db73e095eaa80c981de80a5cb76e", func := "bolster/bolsterlaw05.PairCounts", spec := "pairCounts", unfollowed := true, recurses := true, apart := false }
def PairCountsSaid : Prop := pairCountsRow.holds Try.pinned (OpenSpec.ofChange pairCountsSpec)

/-- ITS FALSE NEIGHBOUR: 'it returns false'. Refute it at one input. -/
def pairCountsWrong : ChangeSpec := { name := "pairCounts", fn := fun _ => fun
  | [d1, d2, d3] => { results := [.lit (.bool false)], args := [d1, d2, d3] }
  | _ => none }
def PairCountsWrongFalsely : Prop := pairCountsRow.holds Try.pinned (OpenSpec.ofChange pairCountsWrong)

/-- 'bolsterlaw05.PairHall': WHATEVER THE INPUT: true; the input reads as it did. -/
def pairHallSpec : ChangeSpec := { name := "pairHall", fn := fun _ => fun
  | [d1, d2, d3] => { results := [.lit (.bool true)], args := [d1, d2, d3] }
  | _ => none }
def pairHallRow : OpenClaim := { program := "yteiipfajoikfpaa", sum := "5b57e8cafb65620c7a952e1d0bdeb0401356db73e095eaa80c981de80a5cb76e", func := "bolster/bolsterlaw05.PairHall", spec := "pairHall", unfollowed := true, recurses := true, apart := false }
def PairHallSaid : Prop := pairHallRow.holds Try.pinned (OpenSpec.ofChange pairHallSpec)

/-- ITS FALSE NEIGHBOUR: 'it returns false'. Refute it at one input. -/
def pairHallWrong : ChangeSpec := { name := "pairHall", fn := fun _ => fun
  | [d1, d2, d3] => { results := [.lit (.bool false)], args := [d1, d2, d3] }
  | _ => none }
def PairHallWrongFalsely : Prop := pairHallRow.holds Try.pinned (OpenSpec.ofChange pairHallWrong)

/-- 'bolsterlaw05.PairPrices': WHATEVER THE INPUT: true; the input reads as it did. -/
def pairPricesSpec : ChangeSpec := { name := "pairPrices", fn := fun _ => fun
  | [d] => { results := [.lit (.bool true)], args := [d] }
  | _ => none }
def pairPricesRow : OpenClaim := { program := "yteiipfajoikfpaa", sum := "5b57e8cafb65620c7a952e1d0bdeb0401356db73e095eaa80c981de80a5cb76e", func := "bolster/bolsterlaw05.PairPrices", spec := "pairPrices", unfollowed := true, recurses := true, apart := false }
def PairPricesSaid : Prop := pairPricesRow.holds Try.pinned (OpenSpec.ofChange pairPricesSpec)

/-- ITS FALSE NEIGHBOUR: 'it returns false'. Refute it at one input. -/
def pairPricesWrong : ChangeSpec := { name := "pairPrices", fn := fun _ => fun
  | [d] => { results := [.lit (.bool false)], args := [d] }
  | _ => none }
def PairPricesWrongFalsely : Prop := pairPricesRow.holds Try.pinned (OpenSpec.ofChange pairPricesWrong)

/-- 'bolsterlaw05.PairProves': WHATEVER THE INPUT: true; the input reads as it did. -/
def pairProvesSpec : ChangeSpec := { name := "pairProves", fn := fun _ => fun
  | [d1, d2, d3] => { results := [.lit (.bool true)], args := [d1, d2, d3] }
  | _ => none }
def pairProvesRow : OpenClaim := { program := "yteiipfajoikfpaa", sum := "5b57e8cafb65620c7a952e1d0bdeb0401356db73e095eaa80c981de80a5cb76e", func := "bolster/bolsterlaw05.PairProves", spec := "pairProves", unfollowed := true, recurses := true, apart := false }
def PairProvesSaid : Prop := pairProvesRow.holds Try.pinned (OpenSpec.ofChange pairProvesSpec)

/-- ITS FALSE NEIGHBOUR: 'it returns false'. Refute it at one input. -/
def pairProvesWrong : ChangeSpec := { name := "pairProves", fn := fun _ => fun
  | [d1, d2, d3] => { results := [.lit (.bool false)], args := [d1, d2, d3] }
  | _ => none }
def PairProvesWrongFalsely : Prop := pairProvesRow.holds Try.pinned (OpenSpec.ofChange pairProvesWrong)

/-- 'bolsterlaw05.PairEgervary': WHATEVER THE INPUT: true; the input reads as it did. -/
def pairEgervarySpec : ChangeSpec := { name := "pairEgervary", fn := fun _ => fun
  | [d1, d2, d3] => { results := [.lit (.bool true)], args := [d1, d2, d3] }
  | _ => none }
def pairEgervaryRow : OpenClaim := { program := "yteiipfajoikfpaa", sum := "5b57e8cafb65620c7a952e1d0bdeb0401356db73e095eaa80c981de80a5cb76e", func := "bolster/bolsterlaw05.PairEgervary", spec := "pairEgervary", unfollowed := true, recurses := true, apart := false }
def PairEgervarySaid : Prop := pairEgervaryRow.holds Try.pinned (OpenSpec.ofChange pairEgervarySpec)

/-- ITS FALSE NEIGHBOUR: 'it returns false'. Refute it at one input. -/
def pairEgervaryWrong : ChangeSpec := { name := "pairEgervary", fn := fun _ => fun
  | [d1, d2, d3] => { results := [.lit (.bool false)], args := [d1, d2, d3] }
  | _ => none }
def PairEgervaryWrongFalsely : Prop := pairEgervaryRow.holds Try.pinned (OpenSpec.ofChange pairEgervaryWrong)

/-- 'bolsterlaw05.PairMosts': WHATEVER THE INPUT: true; the input reads as it did. -/
def pairMostsSpec : ChangeSpec := { name := "pairMosts", fn := fun _ => fun
  | [d1, d2] => { results := [.lit (.bool true)], args := [d1, d2] }
  | _ => none }
def pairMostsRow : OpenClaim := { program := "yteiipfajoikfpaa", sum := "5b57e8cafb65620c7a952e1d0bdeb0401356db73e095eaa80c981de80a5cb76e", func := "bolster/bolsterlaw05.PairMosts", spec := "pairMosts", unfollowed := true, recurses := true, apart := false }
def PairMostsSaid : Prop := pairMostsRow.holds Try.pinned (OpenSpec.ofChange pairMostsSpec)

/-- ITS FALSE NEIGHBOUR: 'it returns false'. Refute it at one input. -/
def pairMostsWrong : ChangeSpec := { name := "pairMosts", fn := fun _ => fun
  | [d1, d2] => { results := [.lit (.bool false)], args := [d1, d2] }
  | _ => none }
def PairMostsWrongFalsely : Prop := pairMostsRow.holds Try.pinned (OpenSpec.ofChange pairMostsWrong)

/-- 'bolsterlaw05.PairRanks': WHATEVER THE INPUT: true; the input reads as it did. -/
def pairRanksSpec : ChangeSpec := { name := "pairRanks", fn := fun _ => fun
  | [d1, d2, d3] => { results := [.lit (.bool true)], args := [d1, d2, d3] }
  | _ => none }
def pairRanksRow : OpenClaim := { program := "yteiipfajoikfpaa", sum := "5b57e8cafb65620c7a952e1d0bdeb0401356db73e095eaa80c981de80a5cb76e", func := "bolster/bolsterlaw05.PairRanks", spec := "pairRanks", unfollowed := true, recurses := true, apart := false }
def PairRanksSaid : Prop := pairRanksRow.holds Try.pinned (OpenSpec.ofChange pairRanksSpec)

/-- ITS FALSE NEIGHBOUR: 'it returns false'. Refute it at one input. -/
def pairRanksWrong : ChangeSpec := { name := "pairRanks", fn := fun _ => fun
  | [d1, d2, d3] => { results := [.lit (.bool false)], args := [d1, d2, d3] }
  | _ => none }
def PairRanksWrongFalsely : Prop := pairRanksRow.holds Try.pinned (OpenSpec.ofChange pairRanksWrong)

/-- 'bolsterlaw05.PairKonig': WHATEVER THE INPUT: true; the input reads as it did. -/
def pairKonigSpec : ChangeSpec := { name := "pairKonig", fn := fun _ => fun
  | [d1, d2, d3] => { results := [.lit (.bool true)], args := [d1, d2, d3] }
  | _ => none }
def pairKonigRow : OpenClaim := { program := "yteiipfajoikfpaa", sum := "5b57e8cafb65620c7a952e1d0bdeb0401356db73e095eaa80c981de80a5cb76e", func := "bolster/bolsterlaw05.PairKonig", spec := "pairKonig", unfollowed := true, recurses := true, apart := false }
def PairKonigSaid : Prop := pairKonigRow.holds Try.pinned (OpenSpec.ofChange pairKonigSpec)

/-- ITS FALSE NEIGHBOUR: 'it returns false'. Refute it at one input. -/
def pairKonigWrong : ChangeSpec := { name := "pairKonig", fn := fun _ => fun
  | [d1, d2, d3] => { results := [.lit (.bool false)], args := [d1, d2, d3] }
  | _ => none }
def PairKonigWrongFalsely : Prop := pairKonigRow.holds Try.pinned (OpenSpec.ofChange pairKonigWrong)

/-- 'bolsterlaw05.PairBijection': WHATEVER THE INPUT: true; the input reads as it did. -/
def pairBijectionSpec : ChangeSpec := { name := "pairBijection", fn := fun _ => fun
  | [d1, d2, d3] => { results := [.lit (.bool true)], args := [d1, d2, d3] }
  | _ => none }
def pairBijectionRow : OpenClaim := { program := "yteiipfajoikfpaa", sum := "5b57e8cafb65620c7a952e1d0bdeb0401356db73e095eaa80c981de80a5cb76e", func := "bolster/bolsterlaw05.PairBijection", spec := "pairBijection", unfollowed := true, recurses := true, apart := false }
def PairBijectionSaid : Prop := pairBijectionRow.holds Try.pinned (OpenSpec.ofChange pairBijectionSpec)

/-- ITS FALSE NEIGHBOUR: 'it returns false'. Refute it at one input. -/
def pairBijectionWrong : ChangeSpec := { name := "pairBijection", fn := fun _ => fun
  | [d1, d2, d3] => { results := [.lit (.bool false)], args := [d1, d2, d3] }
  | _ => none }
def PairBijectionWrongFalsely : Prop := pairBijectionRow.holds Try.pinned (OpenSpec.ofChange pairBijectionWrong)

/-- 'bolsterlaw05.PairWorsts': WHATEVER THE INPUT: true; the input reads as it did. -/
def pairWorstsSpec : ChangeSpec := { name := "pairWorsts", fn := fun _ => fun
  | [d] => { results := [.lit (.bool true)], args := [d] }
  | _ => none }
def pairWorstsRow : OpenClaim := { program := "yteiipfajoikfpaa", sum := "5b57e8cafb65620c7a952e1d0bdeb0401356db73e095eaa80c981de80a5cb76e", func := "bolster/bolsterlaw05.PairWorsts", spec := "pairWorsts", unfollowed := true, recurses := true, apart := false }
def PairWorstsSaid : Prop := pairWorstsRow.holds Try.pinned (OpenSpec.ofChange pairWorstsSpec)

/-- ITS FALSE NEIGHBOUR: 'it returns false'. Refute it at one input. -/
def pairWorstsWrong : ChangeSpec := { name := "pairWorsts", fn := fun _ => fun
  | [d] => { results := [.lit (.bool false)], args := [d] }
  | _ => none }
def PairWorstsWrongFalsely : Prop := pairWorstsRow.holds Try.pinned (OpenSpec.ofChange pairWorstsWrong)

/-- 'bolsterlaw05.PairMoved': WHATEVER THE INPUT: true; the input reads as it did. -/
def pairMovedSpec : ChangeSpec := { name := "pairMoved", fn := fun _ => fun
  | [d1, d2, d3] => { results := [.lit (.bool true)], args := [d1, d2, d3] }
  | _ => none }
def pairMovedRow : OpenClaim := { program := "yteiipfajoikfpaa", sum := "5b57e8cafb65620c7a952e1d0bdeb0401356db73e095eaa80c981de80a5cb76e", func := "bolster/bolsterlaw05.PairMoved", spec := "pairMoved", unfollowed := true, recurses := true, apart := false }
def PairMovedSaid : Prop := pairMovedRow.holds Try.pinned (OpenSpec.ofChange pairMovedSpec)

/-- ITS FALSE NEIGHBOUR: 'it returns false'. Refute it at one input. -/
def pairMovedWrong : ChangeSpec := { name := "pairMoved", fn := fun _ => fun
  | [d1, d2, d3] => { results := [.lit (.bool false)], args := [d1, d2, d3] }
  | _ => none }
def PairMovedWrongFalsely : Prop := pairMovedRow.holds Try.pinned (OpenSpec.ofChange pairMovedWrong)

/-- 'bolsterlaw05.PairSmooths': WHATEVER THE INPUT: true; the input reads as it did. -/
def pairSmoothsSpec : ChangeSpec := { name := "pairSmooths", fn := fun _ => fun
  | [d] => { results := [.lit (.bool true)], args := [d] }
  | _ => none }
def pairSmoothsRow : OpenClaim := { program := "yteiipfajoikfpaa", sum := "5b57e8cafb65620c7a952e1d0bdeb0401356db73e095eaa80c981de80a5cb76e", func := "bolster/bolsterlaw05.PairSmooths", spec := "pairSmooths", unfollowed := true, recurses := true, apart := false }
def PairSmoothsSaid : Prop := pairSmoothsRow.holds Try.pinned (OpenSpec.ofChange pairSmoothsSpec)

/-- ITS FALSE NEIGHBOUR: 'it returns false'. Refute it at one input. -/
def pairSmoothsWrong : ChangeSpec := { name := "pairSmooths", fn := fun _ => fun
  | [d] => { results := [.lit (.bool false)], args := [d] }
  | _ => none }
def PairSmoothsWrongFalsely : Prop := pairSmoothsRow.holds Try.pinned (OpenSpec.ofChange pairSmoothsWrong)

/-- 'bolsterlaw05.PairPowers': WHATEVER THE INPUT: true; the input reads as it did. -/
def pairPowersSpec : ChangeSpec := { name := "pairPowers", fn := fun _ => fun
  | [d1, d2, d3] => { results := [.lit (.bool true)], args := [d1, d2, d3] }
  | _ => none }
def pairPowersRow : OpenClaim := { program := "yteiipfajoikfpaa", sum := "5b57e8cafb65620c7a952e1d0bdeb0401356db73e095eaa80c981de80a5cb76e", func := "bolster/bolsterlaw05.PairPowers", spec := "pairPowers", unfollowed := true, recurses := true, apart := false }
def PairPowersSaid : Prop := pairPowersRow.holds Try.pinned (OpenSpec.ofChange pairPowersSpec)

/-- ITS FALSE NEIGHBOUR: 'it returns false'. Refute it at one input. -/
def pairPowersWrong : ChangeSpec := { name := "pairPowers", fn := fun _ => fun
  | [d1, d2, d3] => { results := [.lit (.bool false)], args := [d1, d2, d3] }
  | _ => none }
def PairPowersWrongFalsely : Prop := pairPowersRow.holds Try.pinned (OpenSpec.ofChange pairPowersWrong)

/- THE SECOND FORM. 'bulk': how many values and letters a reading holds, each counted each time it is reached (what is shared counts as often as it is met; a slice's spare places count too). A statement '..UptoSaid' is the law's where the arguments, and the package variables that the reading takes, are together of bulk at most 1048576: NARROWER than '..Said'. Prove '..Said' where nothing that the law and all that it calls make is longer than what came in: it says more and counts as full. Else prove '..UptoSaid'. A law counts once. -/
mutual
def uptoBulk {H : Type} : DataW H → Nat
  | .lit (.string bytes) => bytes.length + 1
  | .lit _ => 1
  | .nil => 1
  | .ptr d => uptoBulk d + 1
  | .slice elems spare => uptoBulkAll elems + uptoBulkAll spare + 1
  | .agg parts => uptoBulkAll parts + 1
  | .iface _ d => uptoBulk d + 1
  | .map entries => uptoBulkEntries entries + 1
  | .held _ => 1
def uptoBulkAll {H : Type} : List (DataW H) → Nat
  | [] => 0
  | d :: r => uptoBulk d + uptoBulkAll r
def uptoBulkEntries {H : Type} : List (Lit × DataW H) → Nat
  | [] => 0
  | x :: r => uptoBulkEntry x + uptoBulkEntries r
def uptoBulkEntry {H : Type} : Lit × DataW H → Nat
  | (.string bytes, d) => bytes.length + uptoBulk d + 1
  | (_, d) => uptoBulk d + 1
 end
def uptoSmall : (H : Type) → List (DataW H) → Bool := fun _ ds => decide (uptoBulkAll ds ≤ 1048576)
def OpenSpec.upto (s : _root_.Go.ChangeSpec) : _root_.Go.OpenSpec := { _root_.Go.OpenSpec.ofChange s with cond := some uptoSmall }

/-- 'bolsterlaw05.PairCheapests', WHERE WHAT IT READS IS OF BULK AT MOST 1048576: true; the input reads as it did. -/
def pairCheapestsUptoRow : OpenClaim := { program := "yteiipfajoikfpaa", sum := "5b57e8cafb65620c7a952e1d0bdeb0401356db73e095eaa80c981de80a5cb76e", func := "bolster/bolsterlaw05.PairCheapests", spec := "pairCheapests", unfollowed := true, recurses := true, apart := false, narrowed := true }
def PairCheapestsUptoSaid : Prop := pairCheapestsUptoRow.holds Try.pinned (OpenSpec.upto pairCheapestsSpec)

/-- 'bolsterlaw05.PairLacks', WHERE WHAT IT READS IS OF BULK AT MOST 1048576: true; the input reads as it did. -/
def pairLacksUptoRow : OpenClaim := { program := "yteiipfajoikfpaa", sum := "5b57e8cafb65620c7a952e1d0bdeb0401356db73e095eaa80c981de80a5cb76e", func := "bolster/bolsterlaw05.PairLacks", spec := "pairLacks", unfollowed := true, recurses := true, apart := false, narrowed := true }
def PairLacksUptoSaid : Prop := pairLacksUptoRow.holds Try.pinned (OpenSpec.upto pairLacksSpec)

/-- 'bolsterlaw05.PairCounts', WHERE WHAT IT READS IS OF BULK AT MOST 1048576: true; the input reads as it did. -/
def pairCountsUptoRow : OpenClaim := { program := "yteiipfajoikfpaa", sum := "5b57e8cafb65620c7a952e1d0bdeb0401356db73e095eaa80c981de80a5cb76e", func := "bolster/bolsterlaw05.PairCounts", spec := "pairCounts", unfollowed := true, recurses := true, apart := false, narrowed := true }
def PairCountsUptoSaid : Prop := pairCountsUptoRow.holds Try.pinned (OpenSpec.upto pairCountsSpec)

/-- 'bolsterlaw05.PairHall', WHERE WHAT IT READS IS OF BULK AT MOST 1048576: true; the input reads as it did. -/
def pairHallUptoRow : OpenClaim := { program := "yteiipfajoikfpaa", sum := "5b57e8cafb65620c7a952e1d0bdeb0401356db73e095eaa80c981de80a5cb76e", func := "bolster/bolsterlaw05.PairHall", spec := "pairHall", unfollowed := true, recurses := true, apart := false, narrowed := true }
def PairHallUptoSaid : Prop := pairHallUptoRow.holds Try.pinned (OpenSpec.upto pairHallSpec)

/-- 'bolsterlaw05.PairPrices', WHERE WHAT IT READS IS OF BULK AT MOST 1048576: true; the input reads as it did. -/
def pairPricesUptoRow : OpenClaim := { program := "yteiipfajoikfpaa", sum := "5b57e8cafb65620c7a952e1d0bdeb0401356db73e095eaa80c981de80a5cb76e", func := "bolster/bolsterlaw05.PairPrices", spec := "pairPrices", unfollowed := true, recurses := true, apart := false, narrowed := true }
def PairPricesUptoSaid : Prop := pairPricesUptoRow.holds Try.pinned (OpenSpec.upto pairPricesSpec)

/-- 'bolsterlaw05.PairProves', WHERE WHAT IT READS IS OF BULK AT MOST 1048576: true; the input reads as it did. -/
def pairProvesUptoRow : OpenClaim := { program := "yteiipfajoikfpaa", sum := "5b57e8cafb65620c7a952e1d0bdeb0401356db73e095eaa80c981de80a5cb76e", func := "bolster/bolsterlaw05.PairProves", spec := "pairProves", unfollowed := true, recurses := true, apart := false, narrowed := true }
def PairProvesUptoSaid : Prop := pairProvesUptoRow.holds Try.pinned (OpenSpec.upto pairProvesSpec)

/-- 'bolsterlaw05.PairEgervary', WHERE WHAT IT READS IS OF BULK AT MOST 1048576: true; the input reads as it did. -/
def pairEgervaryUptoRow : OpenClaim := { program := "yteiipfajoikfpaa", sum := "5b57e8cafb65620c7a952e1d0bdeb0401356db73e095eaa80c981de80a5cb76e", func := "bolster/bolsterlaw05.PairEgervary", spec := "pairEgervary", unfollowed := true, recurses := true, apart := false, narrowed := true }
def PairEgervaryUptoSaid : Prop := pairEgervaryUptoRow.holds Try.pinned (OpenSpec.upto pairEgervarySpec)

/-- 'bolsterlaw05.PairMosts', WHERE WHAT IT READS IS OF BULK AT MOST 1048576: true; the input reads as it did. -/
def pairMostsUptoRow : OpenClaim := { program := "yteiipfajoikfpaa", sum := "5b57e8cafb65620c7a952e1d0bdeb0401356db73e095eaa80c981de80a5cb76e", func := "bolster/bolsterlaw05.PairMosts", spec := "pairMosts", unfollowed := true, recurses := true, apart := false, narrowed := true }
def PairMostsUptoSaid : Prop := pairMostsUptoRow.holds Try.pinned (OpenSpec.upto pairMostsSpec)

/-- 'bolsterlaw05.PairRanks', WHERE WHAT IT READS IS OF BULK AT MOST 1048576: true; the input reads as it did. -/
def pairRanksUptoRow : OpenClaim := { program := "yteiipfajoikfpaa", sum := "5b57e8cafb65620c7a952e1d0bdeb0401356db73e095eaa80c981de80a5cb76e", func := "bolster/bolsterlaw05.PairRanks", spec := "pairRanks", unfollowed := true, recurses := true, apart := false, narrowed := true }
def PairRanksUptoSaid : Prop := pairRanksUptoRow.holds Try.pinned (OpenSpec.upto pairRanksSpec)

/-- 'bolsterlaw05.PairKonig', WHERE WHAT IT READS IS OF BULK AT MOST 1048576: true; the input reads as it did. -/
def pairKonigUptoRow : OpenClaim := { program := "yteiipfajoikfpaa", sum := "5b57e8cafb65620c7a952e1d0bdeb0401356db73e095eaa80c981de80a5cb76e", func := "bolster/bolsterlaw05.PairKonig", spec := "pairKonig", unfollowed := true, recurses := true, apart := false, narrowed := true }
def PairKonigUptoSaid : Prop := pairKonigUptoRow.holds Try.pinned (OpenSpec.upto pairKonigSpec)

/-- 'bolsterlaw05.PairBijection', WHERE WHAT IT READS IS OF BULK AT MOST 1048576: true; the input reads as it did. -/
def pairBijectionUptoRow : OpenClaim := { program := "yteiipfajoikfpaa", sum := "5b57e8cafb65620c7a952e1d0bdeb0401356db73e095eaa80c981de80a5cb76e", func := "bolster/bolsterlaw05.PairBijection", spec := "pairBijection", unfollowed := true, recurses := true, apart := false, narrowed := true }
def PairBijectionUptoSaid : Prop := pairBijectionUptoRow.holds Try.pinned (OpenSpec.upto pairBijectionSpec)

/-- 'bolsterlaw05.PairWorsts', WHERE WHAT IT READS IS OF BULK AT MOST 1048576: true; the input reads as it did. -/
def pairWorstsUptoRow : OpenClaim := { program := "yteiipfajoikfpaa", sum := "5b57e8cafb65620c7a952e1d0bdeb0401356db73e095eaa80c981de80a5cb76e", func := "bolster/bolsterlaw05.PairWorsts", spec := "pairWorsts", unfollowed := true, recurses := true, apart := false, narrowed := true }
def PairWorstsUptoSaid : Prop := pairWorstsUptoRow.holds Try.pinned (OpenSpec.upto pairWorstsSpec)

/-- 'bolsterlaw05.PairMoved', WHERE WHAT IT READS IS OF BULK AT MOST 1048576: true; the input reads as it did. -/
def pairMovedUptoRow : OpenClaim := { program := "yteiipfajoikfpaa", sum := "5b57e8cafb65620c7a952e1d0bdeb0401356db73e095eaa80c981de80a5cb76e", func := "bolster/bolsterlaw05.PairMoved", spec := "pairMoved", unfollowed := true, recurses := true, apart := false, narrowed := true }
def PairMovedUptoSaid : Prop := pairMovedUptoRow.holds Try.pinned (OpenSpec.upto pairMovedSpec)

/-- 'bolsterlaw05.PairSmooths', WHERE WHAT IT READS IS OF BULK AT MOST 1048576: true; the input reads as it did. -/
def pairSmoothsUptoRow : OpenClaim := { program := "yteiipfajoikfpaa", sum := "5b57e8cafb65620c7a952e1d0bdeb0401356db73e095eaa80c981de80a5cb76e", func := "bolster/bolsterlaw05.PairSmooths", spec := "pairSmooths", unfollowed := true, recurses := true, apart := false, narrowed := true }
def PairSmoothsUptoSaid : Prop := pairSmoothsUptoRow.holds Try.pinned (OpenSpec.upto pairSmoothsSpec)

/-- 'bolsterlaw05.PairPowers', WHERE WHAT IT READS IS OF BULK AT MOST 1048576: true; the input reads as it did. -/
def pairPowersUptoRow : OpenClaim := { program := "yteiipfajoikfpaa", sum := "5b57e8cafb65620c7a952e1d0bdeb0401356db73e095eaa80c981de80a5cb76e", func := "bolster/bolsterlaw05.PairPowers", spec := "pairPowers", unfollowed := true, recurses := true, apart := false, narrowed := true }
def PairPowersUptoSaid : Prop := pairPowersUptoRow.holds Try.pinned (OpenSpec.upto pairPowersSpec)

end Rows
end Go.Proofs.Yteiipfajoikfpaa

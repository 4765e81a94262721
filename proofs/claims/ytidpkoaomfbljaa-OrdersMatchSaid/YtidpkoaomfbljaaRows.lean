/-
  No cell of these rows narrows 'for every input' (looked for: loops, veiled, ifaces, maps, wideKeys, modest, calm, conditions, laid).
  DERIVED. THE GIVEN ROWS OF THIS SEAT. 8 by the template 'for every input the law returns true; each argument reads behind the call as it read before'; 0 by the template 'total and deterministic' (their statements: YtidpkoaomfbljaaTotals.lean).
  GIVEN WITH THE SEED: the statements are not yours to turn. If you find one false, say at which input.
  Laid BY PROGRAM, IN A SANDBOX (cutbox-rows.mjs): the forced cells as the released guide's own fill.sh prints them over the translation 309944bca1745137… (all of the seat's roots in one cut). By AI agents, Wed Nov 11 2026. No macro, syntax, notation, axiom, sorry.
-/
import Derived.Test.YtidpkoaomfbljaaChecked
import GoSem.Claim
import GoSem.ClaimJoined
import GoSem.ClaimMapViews
import Derived.JoinedTies
import Derived.KernelRfl
namespace Go.Proofs.Ytidpkoaomfbljaa
/- THE CELL 'sum', in the pinned program and in every row, IS THE sha256 OF THE DUMP (.gsa) THAT YtidpkoaomfbljaaProg.lean LOADS. Nothing in Lean hashes anything: it is a label: what it is worth is what the hold of that sum in a sandbox is worth. -/
noncomputable def Try.pinned : Pinned := { name := "ytidpkoaomfbljaa", sum := "309944bca174513723957a76900551b5ea7e5afaa32ea0f5a10164996e462569", checked := Try.checked }
namespace Rows
def none {H : Type} : Left H := { results := [], args := [] }

/-- 'wherrylaw2.DelaysMatch': WHATEVER THE INPUT: true; the input reads as it did. -/
def delaysMatchSpec : ChangeSpec := { name := "delaysMatch", fn := fun _ => fun
  | [d1, d2] => { results := [.lit (.bool true)], args := [d1, d2] }
  | _ => none }
def delaysMatchRow : OpenClaim := { program := "ytidpkoaomfbljaa", sum := "309944bca174513723957a76900551b5ea7e5afaa32ea0f5a10164996e462569", func := "wherryman/wherrylaw2.DelaysMatch", spec := "delaysMatch", unfollowed := true, recurses := true, apart := false }
def DelaysMatchSaid : Prop := delaysMatchRow.holds Try.pinned (OpenSpec.ofChange delaysMatchSpec)

/-- ITS FALSE NEIGHBOUR: 'it returns false'. Refute it at one input. -/
def delaysMatchWrong : ChangeSpec := { name := "delaysMatch", fn := fun _ => fun
  | [d1, d2] => { results := [.lit (.bool false)], args := [d1, d2] }
  | _ => none }
def DelaysMatchWrongFalsely : Prop := delaysMatchRow.holds Try.pinned (OpenSpec.ofChange delaysMatchWrong)

/-- 'wherrylaw2.PacerMatches': WHATEVER THE INPUT: true; the input reads as it did. -/
def pacerMatchesSpec : ChangeSpec := { name := "pacerMatches", fn := fun _ => fun
  | [d1, d2] => { results := [.lit (.bool true)], args := [d1, d2] }
  | _ => none }
def pacerMatchesRow : OpenClaim := { program := "ytidpkoaomfbljaa", sum := "309944bca174513723957a76900551b5ea7e5afaa32ea0f5a10164996e462569", func := "wherryman/wherrylaw2.PacerMatches", spec := "pacerMatches", unfollowed := true, recurses := true, apart := false }
def PacerMatchesSaid : Prop := pacerMatchesRow.holds Try.pinned (OpenSpec.ofChange pacerMatchesSpec)

/-- ITS FALSE NEIGHBOUR: 'it returns false'. Refute it at one input. -/
def pacerMatchesWrong : ChangeSpec := { name := "pacerMatches", fn := fun _ => fun
  | [d1, d2] => { results := [.lit (.bool false)], args := [d1, d2] }
  | _ => none }
def PacerMatchesWrongFalsely : Prop := pacerMatchesRow.holds Try.pinned (OpenSpec.ofChange pacerMatchesWrong)

/-- 'wherrylaw2.RatesMatch': WHATEVER THE INPUT: true; the input reads as it did. -/
def ratesMatchSpec : ChangeSpec := { name := "ratesMatch", fn := fun _ => fun
  | [d1, d2, d3, d4] => { results := [.lit (.bool true)], args := [d1, d2, d3, d4] }
  | _ => none }
def ratesMatchRow : OpenClaim := { program := "ytidpkoaomfbljaa", sum := "309944bca174513723957a76900551b5ea7e5afaa32ea0f5a10164996e462569", func := "wherryman/wherrylaw2.RatesMatch", spec := "ratesMatch", unfollowed := true, recurses := true, apart := false }
def RatesMatchSaid : Prop := ratesMatchRow.holds Try.pinned (OpenSpec.ofChange ratesMatchSpec)

/-- ITS FALSE NEIGHBOUR: 'it returns false'. Refute it at one input. -/
def ratesMatchWrong : ChangeSpec := { name := "ratesMatch", fn := fun _ => fun
  | [d1, d2, d3, d4] => { results := [.lit (.bool false)], args := [d1, d2, d3, d4] }
  | _ => none }
def RatesMatchWrongFalsely : Prop := ratesMatchRow.holds Try.pinned (OpenSpec.ofChange ratesMatchWrong)

/-- 'wherrylaw2.BucketMatches': WHATEVER THE INPUT: true; the input reads as it did. -/
def bucketMatchesSpec : ChangeSpec := { name := "bucketMatches", fn := fun _ => fun
  | [d1, d2, d3] => { results := [.lit (.bool true)], args := [d1, d2, d3] }
  | _ => none }
def bucketMatchesRow : OpenClaim := { program := "ytidpkoaomfbljaa", sum := "309944bca174513723957a76900551b5ea7e5afaa32ea0f5a10164996e462569", func := "wherryman/wherrylaw2.BucketMatches", spec := "bucketMatches", unfollowed := true, recurses := true, apart := false }
def BucketMatchesSaid : Prop := bucketMatchesRow.holds Try.pinned (OpenSpec.ofChange bucketMatchesSpec)

/-- ITS FALSE NEIGHBOUR: 'it returns false'. Refute it at one input. -/
def bucketMatchesWrong : ChangeSpec := { name := "bucketMatches", fn := fun _ => fun
  | [d1, d2, d3] => { results := [.lit (.bool false)], args := [d1, d2, d3] }
  | _ => none }
def BucketMatchesWrongFalsely : Prop := bucketMatchesRow.holds Try.pinned (OpenSpec.ofChange bucketMatchesWrong)

/-- 'wherrylaw2.BucketBounds': WHATEVER THE INPUT: true; the input reads as it did. -/
def bucketBoundsSpec : ChangeSpec := { name := "bucketBounds", fn := fun _ => fun
  | [d1, d2, d3] => { results := [.lit (.bool true)], args := [d1, d2, d3] }
  | _ => none }
def bucketBoundsRow : OpenClaim := { program := "ytidpkoaomfbljaa", sum := "309944bca174513723957a76900551b5ea7e5afaa32ea0f5a10164996e462569", func := "wherryman/wherrylaw2.BucketBounds", spec := "bucketBounds", unfollowed := true, recurses := true, apart := false }
def BucketBoundsSaid : Prop := bucketBoundsRow.holds Try.pinned (OpenSpec.ofChange bucketBoundsSpec)

/-- ITS FALSE NEIGHBOUR: 'it returns false'. Refute it at one input. -/
def bucketBoundsWrong : ChangeSpec := { name := "bucketBounds", fn := fun _ => fun
  | [d1, d2, d3] => { results := [.lit (.bool false)], args := [d1, d2, d3] }
  | _ => none }
def BucketBoundsWrongFalsely : Prop := bucketBoundsRow.holds Try.pinned (OpenSpec.ofChange bucketBoundsWrong)

/-- 'wherrylaw2.SpecsMatch': WHATEVER THE INPUT: true; the input reads as it did. -/
def specsMatchSpec : ChangeSpec := { name := "specsMatch", fn := fun _ => fun
  | [d] => { results := [.lit (.bool true)], args := [d] }
  | _ => none }
def specsMatchRow : OpenClaim := { program := "ytidpkoaomfbljaa", sum := "309944bca174513723957a76900551b5ea7e5afaa32ea0f5a10164996e462569", func := "wherryman/wherrylaw2.SpecsMatch", spec := "specsMatch", inPlace := ["internal/bytealg.IndexByteString"], unfollowed := true, recurses := true, apart := false }
def SpecsMatchSaid : Prop := specsMatchRow.holds Try.pinned (OpenSpec.ofChange specsMatchSpec)

/-- ITS FALSE NEIGHBOUR: 'it returns false'. Refute it at one input. -/
def specsMatchWrong : ChangeSpec := { name := "specsMatch", fn := fun _ => fun
  | [d] => { results := [.lit (.bool false)], args := [d] }
  | _ => none }
def SpecsMatchWrongFalsely : Prop := specsMatchRow.holds Try.pinned (OpenSpec.ofChange specsMatchWrong)

/-- 'wherrylaw2.OrdersMatch': WHATEVER THE INPUT: true; the input reads as it did. -/
def ordersMatchSpec : ChangeSpec := { name := "ordersMatch", fn := fun _ => fun
  | [d1, d2, d3] => { results := [.lit (.bool true)], args := [d1, d2, d3] }
  | _ => none }
def ordersMatchRow : OpenClaim := { program := "ytidpkoaomfbljaa", sum := "309944bca174513723957a76900551b5ea7e5afaa32ea0f5a10164996e462569", func := "wherryman/wherrylaw2.OrdersMatch", spec := "ordersMatch", unfollowed := true, recurses := true, apart := false }
def OrdersMatchSaid : Prop := ordersMatchRow.holds Try.pinned (OpenSpec.ofChange ordersMatchSpec)

/-- ITS FALSE NEIGHBOUR: 'it returns false'. Refute it at one input. -/
def ordersMatchWrong : ChangeSpec := { name := "ordersMatch", fn := fun _ => fun
  | [d1, d2, d3] => { results := [.lit (.bool false)], args := [d1, d2, d3] }
  | _ => none }
def OrdersMatchWrongFalsely : Prop := ordersMatchRow.holds Try.pinned (OpenSpec.ofChange ordersMatchWrong)

/-- 'wherrylaw2.PartsMatch': WHATEVER THE INPUT: true; the input reads as it did. -/
def partsMatchSpec : ChangeSpec := { name := "partsMatch", fn := fun _ => fun
  | [d1, d2, d3] => { results := [.lit (.bool true)], args := [d1, d2, d3] }
  | _ => none }
def partsMatchRow : OpenClaim := { program := "ytidpkoaomfbljaa", sum := "309944bca174513723957a76900551b5ea7e5afaa32ea0f5a10164996e462569", func := "wherryman/wherrylaw2.PartsMatch", spec := "partsMatch", unfollowed := true, recurses := true, apart := false }
def PartsMatchSaid : Prop := partsMatchRow.holds Try.pinned (OpenSpec.ofChange partsMatchSpec)

/-- ITS FALSE NEIGHBOUR: 'it returns false'. Refute it at one input. -/
def partsMatchWrong : ChangeSpec := { name := "partsMatch", fn := fun _ => fun
  | [d1, d2, d3] => { results := [.lit (.bool false)], args := [d1, d2, d3] }
  | _ => none }
def PartsMatchWrongFalsely : Prop := partsMatchRow.holds Try.pinned (OpenSpec.ofChange partsMatchWrong)

/- THE SECOND FORM. 'bulk': how many values and letters a reading holds, each counted each time it is reached (what is shared counts as often as it is met; a slice's spare places count too). A statement '..UptoSaid' is the law's where the arguments, and the package variables that the reading takes, are together of bulk at most 1048576: NARROWER than '..Said'. Prove '..Said' where nothing that the law and all that it calls make is longer than what came in: it says more and counts as full. Else prove '..UptoSaid'. A law counts once. -/
mutual
def uptoBulk {H : Type} : DataW H → Nat
  | .lit (.string bytes) => bytes.length + 1
  | .lit _ => 1
  | .nil => 1
  | .ptr d => uptoBulk d + 1
  | .slice elems spare => uptoBulkAll elems + uptoBulkAll spare + 1
  | .agg parts => uptoBulkAll parts + 1
  | .iface _ d => uptoBulk d + 1
  | .map entries => uptoBulkEntries entries + 1
  | .held _ => 1
def uptoBulkAll {H : Type} : List (DataW H) → Nat
  | [] => 0
  | d :: r => uptoBulk d + uptoBulkAll r
def uptoBulkEntries {H : Type} : List (Lit × DataW H) → Nat
  | [] => 0
  | x :: r => uptoBulkEntry x + uptoBulkEntries r
def uptoBulkEntry {H : Type} : Lit × DataW H → Nat
  | (.string bytes, d) => bytes.length + uptoBulk d + 1
  | (_, d) => uptoBulk d + 1
 end
def uptoSmall : (H : Type) → List (DataW H) → Bool := fun _ ds => decide (uptoBulkAll ds ≤ 1048576)
def OpenSpec.upto (s : _root_.Go.ChangeSpec) : _root_.Go.OpenSpec := { _root_.Go.OpenSpec.ofChange s with cond := some uptoSmall }

/-- 'wherrylaw2.DelaysMatch', WHERE WHAT IT READS IS OF BULK AT MOST 1048576: true; the input reads as it did. -/
def delaysMatchUptoRow : OpenClaim := { program := "ytidpkoaomfbljaa", sum := "309944bca174513723957a76900551b5ea7e5afaa32ea0f5a10164996e462569", func := "wherryman/wherrylaw2.DelaysMatch", spec := "delaysMatch", unfollowed := true, recurses := true, apart := false, narrowed := true }
def DelaysMatchUptoSaid : Prop := delaysMatchUptoRow.holds Try.pinned (OpenSpec.upto delaysMatchSpec)

/-- 'wherrylaw2.PacerMatches', WHERE WHAT IT READS IS OF BULK AT MOST 1048576: true; the input reads as it did. -/
def pacerMatchesUptoRow : OpenClaim := { program := "ytidpkoaomfbljaa", sum := "309944bca174513723957a76900551b5ea7e5afaa32ea0f5a10164996e462569", func := "wherryman/wherrylaw2.PacerMatches", spec := "pacerMatches", unfollowed := true, recurses := true, apart := false, narrowed := true }
def PacerMatchesUptoSaid : Prop := pacerMatchesUptoRow.holds Try.pinned (OpenSpec.upto pacerMatchesSpec)

/-- 'wherrylaw2.RatesMatch', WHERE WHAT IT READS IS OF BULK AT MOST 1048576: true; the input reads as it did. -/
def ratesMatchUptoRow : OpenClaim := { program := "ytidpkoaomfbljaa", sum := "309944bca174513723957a76900551b5ea7e5afaa32ea0f5a10164996e462569", func := "wherryman/wherrylaw2.RatesMatch", spec := "ratesMatch", unfollowed := true, recurses := true, apart := false, narrowed := true }
def RatesMatchUptoSaid : Prop := ratesMatchUptoRow.holds Try.pinned (OpenSpec.upto ratesMatchSpec)

/-- 'wherrylaw2.BucketMatches', WHERE WHAT IT READS IS OF BULK AT MOST 1048576: true; the input reads as it did. -/
def bucketMatchesUptoRow : OpenClaim := { program := "ytidpkoaomfbljaa", sum := "309944bca174513723957a76900551b5ea7e5afaa32ea0f5a10164996e462569", func := "wherryman/wherrylaw2.BucketMatches", spec := "bucketMatches", unfollowed := true, recurses := true, apart := false, narrowed := true }
def BucketMatchesUptoSaid : Prop := bucketMatchesUptoRow.holds Try.pinned (OpenSpec.upto bucketMatchesSpec)

/-- 'wherrylaw2.BucketBounds', WHERE WHAT IT READS IS OF BULK AT MOST 1048576: true; the input reads as it did. -/
def bucketBoundsUptoRow : OpenClaim := { program := "ytidpkoaomfbljaa", sum := "309944bca174513723957a76900551b5ea7e5afaa32ea0f5a10164996e462569", func := "wherryman/wherrylaw2.BucketBounds", spec := "bucketBounds", unfollowed := true, recurses := true, apart := false, narrowed := true }
def BucketBoundsUptoSaid : Prop := bucketBoundsUptoRow.holds Try.pinned (OpenSpec.upto bucketBoundsSpec)

/-- 'wherrylaw2.SpecsMatch', WHERE WHAT IT READS IS OF BULK AT MOST 1048576: true; the input reads as it did. -/
def specsMatchUptoRow : OpenClaim := { program := "ytidpkoaomfbljaa", sum := "309944bca174513723957a76900551b5ea7e5afaa32ea0f5a10164996e462569", func := "wherryman/wherrylaw2.SpecsMatch", spec := "specsMatch", inPlace := ["internal/bytealg.IndexByteString"], unfollowed := true, recurses := true, apart := false, narrowed := true }
def SpecsMatchUptoSaid : Prop := specsMatchUptoRow.holds Try.pinned (OpenSpec.upto specsMatchSpec)

/-- 'wherrylaw2.OrdersMatch', WHERE WHAT IT READS IS OF BULK AT MOST 1048576: true; the input reads as it did. -/
def ordersMatchUptoRow : OpenClaim := { program := "ytidpkoaomfbljaa", sum := "309944bca174513723957a76900551b5ea7e5afaa32ea0f5a10164996e462569", func := "wherryman/wherrylaw2.OrdersMatch", spec := "ordersMatch", unfollowed := true, recurses := true, apart := false, narrowed := true }
def OrdersMatchUptoSaid : Prop := ordersMatchUptoRow.holds Try.pinned (OpenSpec.upto ordersMatchSpec)

/-- 'wherrylaw2.PartsMatch', WHERE WHAT IT READS IS OF BULK AT MOST 1048576: true; the input reads as it did. -/
def partsMatchUptoRow : OpenClaim := { program := "ytidpkoaomfbljaa", sum := "309944bca174513723957a76900551b5ea7e5afaa32ea0f5a10164996e462569", func := "wherryman/wherrylaw2.PartsMatch", spec := "partsMatch", unfollowed := true, recurses := true, apart := false, narrowed := true }
def PartsMatchUptoSaid : Prop := partsMatchUptoRow.holds Try.pinned (OpenSpec.upto partsMatchSpec)

end Rows
end Go.Proofs.Ytidpkoaomfbljaa

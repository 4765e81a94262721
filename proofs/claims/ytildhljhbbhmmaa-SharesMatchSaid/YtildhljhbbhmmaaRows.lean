/-
  No cell of these rows narrows 'for every input' (looked for: loops, veiled, ifaces, maps, wideKeys, modest, calm, conditions, laid).
  DERIVED. THE GIVEN ROWS OF THIS SEAT. 10 by the template 'for every input the law returns true; each argument reads behind the call as it read before'; 0 by the template 'total and deterministic' (their statements: YtildhljhbbhmmaaTotals.lean).
  GIVEN WITH THE SEED: the statements are not yours to turn. If you find one false, say at which input.
  Laid BY PROGRAM, IN A SANDBOX (cutbox-rows.mjs): the forced cells as the released guide's own fill.sh prints them over the translation 91da619ab8dddd43… (all of the seat's roots in one cut). By AI agents, Wed Nov 11 2026. No macro, syntax, notation, axiom, sorry.
-/
import Derived.Test.YtildhljhbbhmmaaChecked
import GoSem.Claim
import GoSem.ClaimJoined
import GoSem.ClaimMapViews
import Derived.JoinedTies
import Derived.KernelRfl
namespace Go.Proofs.Ytildhljhbbhmmaa
/- THE CELL 'sum', in the pinned program and in every row, IS THE sha256 OF THE DUMP (.gsa) THAT YtildhljhbbhmmaaProg.lean LOADS. Nothing in Lean hashes anything: it is a label: what it is worth is what the hold of that sum in a sandbox is worth. -/
noncomputable def Try.pinned : Pinned := { name := "ytildhljhbbhmmaa", sum := "91da619ab8dddd43b5ec017d0c1175e2f5d1b5272e2128971986f7ae604c07d0", checked := Try.checked }
namespace Rows
def none {H : Type} : Left H := { results := [], args := [] }

/-- 'wherrylaw2.SealedSizesMatch': WHATEVER THE INPUT: true; the input reads as it did. -/
def sealedSizesMatchSpec : ChangeSpec := { name := "sealedSizesMatch", fn := fun _ => fun
  | [d] => { results := [.lit (.bool true)], args := [d] }
  | _ => none }
def sealedSizesMatchRow : OpenClaim := { program := "ytildhljhbbhmmaa", sum := "91da619ab8dddd43b5ec017d0c1175e2f5d1b5272e2128971986f7ae604c07d0", func := "wherryman/wherrylaw2.SealedSizesMatch", spec := "sealedSizesMatch", inPlace := ["internal/abi.NoEscape", "internal/bytealg.MakeNoZero", "math/bits.Add64"], unfollowed := true, recurses := true, apart := false }
def SealedSizesMatchSaid : Prop := sealedSizesMatchRow.holds Try.pinned (OpenSpec.ofChange sealedSizesMatchSpec)

/-- ITS FALSE NEIGHBOUR: 'it returns false'. Refute it at one input. -/
def sealedSizesMatchWrong : ChangeSpec := { name := "sealedSizesMatch", fn := fun _ => fun
  | [d] => { results := [.lit (.bool false)], args := [d] }
  | _ => none }
def SealedSizesMatchWrongFalsely : Prop := sealedSizesMatchRow.holds Try.pinned (OpenSpec.ofChange sealedSizesMatchWrong)

/-- 'wherrylaw2.BlocksMatch': WHATEVER THE INPUT: true; the input reads as it did. -/
def blocksMatchSpec : ChangeSpec := { name := "blocksMatch", fn := fun _ => fun
  | [d1, d2, d3, d4] => { results := [.lit (.bool true)], args := [d1, d2, d3, d4] }
  | _ => none }
def blocksMatchRow : OpenClaim := { program := "ytildhljhbbhmmaa", sum := "91da619ab8dddd43b5ec017d0c1175e2f5d1b5272e2128971986f7ae604c07d0", func := "wherryman/wherrylaw2.BlocksMatch", spec := "blocksMatch", inPlace := ["internal/abi.NoEscape", "internal/bytealg.MakeNoZero", "math/bits.Add64"], unfollowed := true, recurses := true, apart := false }
def BlocksMatchSaid : Prop := blocksMatchRow.holds Try.pinned (OpenSpec.ofChange blocksMatchSpec)

/-- ITS FALSE NEIGHBOUR: 'it returns false'. Refute it at one input. -/
def blocksMatchWrong : ChangeSpec := { name := "blocksMatch", fn := fun _ => fun
  | [d1, d2, d3, d4] => { results := [.lit (.bool false)], args := [d1, d2, d3, d4] }
  | _ => none }
def BlocksMatchWrongFalsely : Prop := blocksMatchRow.holds Try.pinned (OpenSpec.ofChange blocksMatchWrong)

/-- 'wherrylaw2.BlocksRefuse': WHATEVER THE INPUT: true; the input reads as it did. -/
def blocksRefuseSpec : ChangeSpec := { name := "blocksRefuse", fn := fun _ => fun
  | [d1, d2, d3, d4, d5, d6, d7] => { results := [.lit (.bool true)], args := [d1, d2, d3, d4, d5, d6, d7] }
  | _ => none }
def blocksRefuseRow : OpenClaim := { program := "ytildhljhbbhmmaa", sum := "91da619ab8dddd43b5ec017d0c1175e2f5d1b5272e2128971986f7ae604c07d0", func := "wherryman/wherrylaw2.BlocksRefuse", spec := "blocksRefuse", inPlace := ["internal/abi.NoEscape", "internal/bytealg.MakeNoZero", "math/bits.Add64"], unfollowed := true, recurses := true, apart := false }
def BlocksRefuseSaid : Prop := blocksRefuseRow.holds Try.pinned (OpenSpec.ofChange blocksRefuseSpec)

/-- ITS FALSE NEIGHBOUR: 'it returns false'. Refute it at one input. -/
def blocksRefuseWrong : ChangeSpec := { name := "blocksRefuse", fn := fun _ => fun
  | [d1, d2, d3, d4, d5, d6, d7] => { results := [.lit (.bool false)], args := [d1, d2, d3, d4, d5, d6, d7] }
  | _ => none }
def BlocksRefuseWrongFalsely : Prop := blocksRefuseRow.holds Try.pinned (OpenSpec.ofChange blocksRefuseWrong)

/-- 'wherrylaw2.StreamMatches': WHATEVER THE INPUT: true; the input reads as it did. -/
def streamMatchesSpec : ChangeSpec := { name := "streamMatches", fn := fun _ => fun
  | [d1, d2, d3, d4] => { results := [.lit (.bool true)], args := [d1, d2, d3, d4] }
  | _ => none }
def streamMatchesRow : OpenClaim := { program := "ytildhljhbbhmmaa", sum := "91da619ab8dddd43b5ec017d0c1175e2f5d1b5272e2128971986f7ae604c07d0", func := "wherryman/wherrylaw2.StreamMatches", spec := "streamMatches", inPlace := ["math/bits.Add64", "internal/abi.NoEscape", "internal/bytealg.MakeNoZero"], unfollowed := true, recurses := true, apart := false }
def StreamMatchesSaid : Prop := streamMatchesRow.holds Try.pinned (OpenSpec.ofChange streamMatchesSpec)

/-- ITS FALSE NEIGHBOUR: 'it returns false'. Refute it at one input. -/
def streamMatchesWrong : ChangeSpec := { name := "streamMatches", fn := fun _ => fun
  | [d1, d2, d3, d4] => { results := [.lit (.bool false)], args := [d1, d2, d3, d4] }
  | _ => none }
def StreamMatchesWrongFalsely : Prop := streamMatchesRow.holds Try.pinned (OpenSpec.ofChange streamMatchesWrong)

/-- 'wherrylaw2.SecretsMatch': WHATEVER THE INPUT: true; the input reads as it did. -/
def secretsMatchSpec : ChangeSpec := { name := "secretsMatch", fn := fun _ => fun
  | [d1, d2] => { results := [.lit (.bool true)], args := [d1, d2] }
  | _ => none }
def secretsMatchRow : OpenClaim := { program := "ytildhljhbbhmmaa", sum := "91da619ab8dddd43b5ec017d0c1175e2f5d1b5272e2128971986f7ae604c07d0", func := "wherryman/wherrylaw2.SecretsMatch", spec := "secretsMatch", inPlace := ["internal/abi.NoEscape", "internal/bytealg.MakeNoZero", "math/bits.Add64"], unfollowed := true, recurses := true, apart := false }
def SecretsMatchSaid : Prop := secretsMatchRow.holds Try.pinned (OpenSpec.ofChange secretsMatchSpec)

/-- ITS FALSE NEIGHBOUR: 'it returns false'. Refute it at one input. -/
def secretsMatchWrong : ChangeSpec := { name := "secretsMatch", fn := fun _ => fun
  | [d1, d2] => { results := [.lit (.bool false)], args := [d1, d2] }
  | _ => none }
def SecretsMatchWrongFalsely : Prop := secretsMatchRow.holds Try.pinned (OpenSpec.ofChange secretsMatchWrong)

/-- 'wherrylaw2.SharesMatch': WHATEVER THE INPUT: true; the input reads as it did. -/
def sharesMatchSpec : ChangeSpec := { name := "sharesMatch", fn := fun _ => fun
  | [d1, d2, d3, d4, d5] => { results := [.lit (.bool true)], args := [d1, d2, d3, d4, d5] }
  | _ => none }
def sharesMatchRow : OpenClaim := { program := "ytildhljhbbhmmaa", sum := "91da619ab8dddd43b5ec017d0c1175e2f5d1b5272e2128971986f7ae604c07d0", func := "wherryman/wherrylaw2.SharesMatch", spec := "sharesMatch", inPlace := ["internal/abi.NoEscape", "internal/bytealg.MakeNoZero", "math/bits.Add64"], unfollowed := true, recurses := true, apart := false }
def SharesMatchSaid : Prop := sharesMatchRow.holds Try.pinned (OpenSpec.ofChange sharesMatchSpec)

/-- ITS FALSE NEIGHBOUR: 'it returns false'. Refute it at one input. -/
def sharesMatchWrong : ChangeSpec := { name := "sharesMatch", fn := fun _ => fun
  | [d1, d2, d3, d4, d5] => { results := [.lit (.bool false)], args := [d1, d2, d3, d4, d5] }
  | _ => none }
def SharesMatchWrongFalsely : Prop := sharesMatchRow.holds Try.pinned (OpenSpec.ofChange sharesMatchWrong)

/-- 'wherrylaw2.ResealMatches': WHATEVER THE INPUT: true; the input reads as it did. -/
def resealMatchesSpec : ChangeSpec := { name := "resealMatches", fn := fun _ => fun
  | [d1, d2, d3, d4, d5] => { results := [.lit (.bool true)], args := [d1, d2, d3, d4, d5] }
  | _ => none }
def resealMatchesRow : OpenClaim := { program := "ytildhljhbbhmmaa", sum := "91da619ab8dddd43b5ec017d0c1175e2f5d1b5272e2128971986f7ae604c07d0", func := "wherryman/wherrylaw2.ResealMatches", spec := "resealMatches", inPlace := ["internal/abi.NoEscape", "internal/bytealg.MakeNoZero", "math/bits.Add64"], unfollowed := true, recurses := true, apart := false }
def ResealMatchesSaid : Prop := resealMatchesRow.holds Try.pinned (OpenSpec.ofChange resealMatchesSpec)

/-- ITS FALSE NEIGHBOUR: 'it returns false'. Refute it at one input. -/
def resealMatchesWrong : ChangeSpec := { name := "resealMatches", fn := fun _ => fun
  | [d1, d2, d3, d4, d5] => { results := [.lit (.bool false)], args := [d1, d2, d3, d4, d5] }
  | _ => none }
def ResealMatchesWrongFalsely : Prop := resealMatchesRow.holds Try.pinned (OpenSpec.ofChange resealMatchesWrong)

/-- 'wherrylaw2.PartsRefuse': WHATEVER THE INPUT: true; the input reads as it did. -/
def partsRefuseSpec : ChangeSpec := { name := "partsRefuse", fn := fun _ => fun
  | [d1, d2, d3, d4, d5, d6, d7] => { results := [.lit (.bool true)], args := [d1, d2, d3, d4, d5, d6, d7] }
  | _ => none }
def partsRefuseRow : OpenClaim := { program := "ytildhljhbbhmmaa", sum := "91da619ab8dddd43b5ec017d0c1175e2f5d1b5272e2128971986f7ae604c07d0", func := "wherryman/wherrylaw2.PartsRefuse", spec := "partsRefuse", inPlace := ["internal/abi.NoEscape", "internal/bytealg.MakeNoZero", "math/bits.Add64"], unfollowed := true, recurses := true, apart := false }
def PartsRefuseSaid : Prop := partsRefuseRow.holds Try.pinned (OpenSpec.ofChange partsRefuseSpec)

/-- ITS FALSE NEIGHBOUR: 'it returns false'. Refute it at one input. -/
def partsRefuseWrong : ChangeSpec := { name := "partsRefuse", fn := fun _ => fun
  | [d1, d2, d3, d4, d5, d6, d7] => { results := [.lit (.bool false)], args := [d1, d2, d3, d4, d5, d6, d7] }
  | _ => none }
def PartsRefuseWrongFalsely : Prop := partsRefuseRow.holds Try.pinned (OpenSpec.ofChange partsRefuseWrong)

/-- 'wherrylaw2.FilesRefuse': WHATEVER THE INPUT: true; the input reads as it did. -/
def filesRefuseSpec : ChangeSpec := { name := "filesRefuse", fn := fun _ => fun
  | [d1, d2, d3, d4, d5, d6] => { results := [.lit (.bool true)], args := [d1, d2, d3, d4, d5, d6] }
  | _ => none }
def filesRefuseRow : OpenClaim := { program := "ytildhljhbbhmmaa", sum := "91da619ab8dddd43b5ec017d0c1175e2f5d1b5272e2128971986f7ae604c07d0", func := "wherryman/wherrylaw2.FilesRefuse", spec := "filesRefuse", inPlace := ["internal/abi.NoEscape", "internal/bytealg.MakeNoZero", "math/bits.Add64"], unfollowed := true, recurses := true, apart := false }
def FilesRefuseSaid : Prop := filesRefuseRow.holds Try.pinned (OpenSpec.ofChange filesRefuseSpec)

/-- ITS FALSE NEIGHBOUR: 'it returns false'. Refute it at one input. -/
def filesRefuseWrong : ChangeSpec := { name := "filesRefuse", fn := fun _ => fun
  | [d1, d2, d3, d4, d5, d6] => { results := [.lit (.bool false)], args := [d1, d2, d3, d4, d5, d6] }
  | _ => none }
def FilesRefuseWrongFalsely : Prop := filesRefuseRow.holds Try.pinned (OpenSpec.ofChange filesRefuseWrong)

/-- 'wherrylaw2.FilesMatch': WHATEVER THE INPUT: true; the input reads as it did. -/
def filesMatchSpec : ChangeSpec := { name := "filesMatch", fn := fun _ => fun
  | [d1, d2, d3, d4, d5] => { results := [.lit (.bool true)], args := [d1, d2, d3, d4, d5] }
  | _ => none }
def filesMatchRow : OpenClaim := { program := "ytildhljhbbhmmaa", sum := "91da619ab8dddd43b5ec017d0c1175e2f5d1b5272e2128971986f7ae604c07d0", func := "wherryman/wherrylaw2.FilesMatch", spec := "filesMatch", inPlace := ["internal/abi.NoEscape", "internal/bytealg.MakeNoZero", "math/bits.Add64"], unfollowed := true, recurses := true, apart := false }
def FilesMatchSaid : Prop := filesMatchRow.holds Try.pinned (OpenSpec.ofChange filesMatchSpec)

/-- ITS FALSE NEIGHBOUR: 'it returns false'. Refute it at one input. -/
def filesMatchWrong : ChangeSpec := { name := "filesMatch", fn := fun _ => fun
  | [d1, d2, d3, d4, d5] => { results := [.lit (.bool false)], args := [d1, d2, d3, d4, d5] }
  | _ => none }
def FilesMatchWrongFalsely : Prop := filesMatchRow.holds Try.pinned (OpenSpec.ofChange filesMatchWrong)

/- THE SECOND FORM. 'bulk': how many values and letters a reading holds, each counted each time it is reached (what is shared counts as often as it is met; a slice's spare places count too). A statement '..UptoSaid' is the law's where the arguments, and the package variables that the reading takes, are together of bulk at most 1048576: NARROWER than '..Said'. Prove '..Said' where nothing that the law and all that it calls make is longer than what came in: it says more and counts as full. Else prove '..UptoSaid'. A law counts once. -/
mutual
def uptoBulk {H : Type} : DataW H → Nat
  | .lit (.string bytes) => bytes.length + 1
  | .lit _ => 1
  | .nil => 1
  | .ptr d => uptoBulk d + 1
  | .slice elems spare => uptoBulkAll elems + uptoBulkAll spare + 1
  | .agg parts => uptoBulkAll parts + 1
  | .iface _ d => uptoBulk d + 1
  | .map entries => uptoBulkEntries entries + 1
  | .held _ => 1
def uptoBulkAll {H : Type} : List (DataW H) → Nat
  | [] => 0
  | d :: r => uptoBulk d + uptoBulkAll r
def uptoBulkEntries {H : Type} : List (Lit × DataW H) → Nat
  | [] => 0
  | x :: r => uptoBulkEntry x + uptoBulkEntries r
def uptoBulkEntry {H : Type} : Lit × DataW H → Nat
  | (.string bytes, d) => bytes.length + uptoBulk d + 1
  | (_, d) => uptoBulk d + 1
 end
def uptoSmall : (H : Type) → List (DataW H) → Bool := fun _ ds => decide (uptoBulkAll ds ≤ 1048576)
def OpenSpec.upto (s : _root_.Go.ChangeSpec) : _root_.Go.OpenSpec := { _root_.Go.OpenSpec.ofChange s with cond := some uptoSmall }

/-- 'wherrylaw2.SealedSizesMatch', WHERE WHAT IT READS IS OF BULK AT MOST 1048576: true; the input reads as it did. -/
def sealedSizesMatchUptoRow : OpenClaim := { program := "ytildhljhbbhmmaa", sum := "91da619ab8dddd43b5ec017d0c1175e2f5d1b5272e2128971986f7ae604c07d0", func := "wherryman/wherrylaw2.SealedSizesMatch", spec := "sealedSizesMatch", inPlace := ["internal/abi.NoEscape", "internal/bytealg.MakeNoZero", "math/bits.Add64"], unfollowed := true, recurses := true, apart := false, narrowed := true }
def SealedSizesMatchUptoSaid : Prop := sealedSizesMatchUptoRow.holds Try.pinned (OpenSpec.upto sealedSizesMatchSpec)

/-- 'wherrylaw2.BlocksMatch', WHERE WHAT IT READS IS OF BULK AT MOST 1048576: true; the input reads as it did. -/
def blocksMatchUptoRow : OpenClaim := { program := "ytildhljhbbhmmaa", sum := "91da619ab8dddd43b5ec017d0c1175e2f5d1b5272e2128971986f7ae604c07d0", func := "wherryman/wherrylaw2.BlocksMatch", spec := "blocksMatch", inPlace := ["internal/abi.NoEscape", "internal/bytealg.MakeNoZero", "math/bits.Add64"], unfollowed := true, recurses := true, apart := false, narrowed := true }
def BlocksMatchUptoSaid : Prop := blocksMatchUptoRow.holds Try.pinned (OpenSpec.upto blocksMatchSpec)

/-- 'wherrylaw2.BlocksRefuse', WHERE WHAT IT READS IS OF BULK AT MOST 1048576: true; the input reads as it did. -/
def blocksRefuseUptoRow : OpenClaim := { program := "ytildhljhbbhmmaa", sum := "91da619ab8dddd43b5ec017d0c1175e2f5d1b5272e2128971986f7ae604c07d0", func := "wherryman/wherrylaw2.BlocksRefuse", spec := "blocksRefuse", inPlace := ["internal/abi.NoEscape", "internal/bytealg.MakeNoZero", "math/bits.Add64"], unfollowed := true, recurses := true, apart := false, narrowed := true }
def BlocksRefuseUptoSaid : Prop := blocksRefuseUptoRow.holds Try.pinned (OpenSpec.upto blocksRefuseSpec)

/-- 'wherrylaw2.StreamMatches', WHERE WHAT IT READS IS OF BULK AT MOST 1048576: true; the input reads as it did. -/
def streamMatchesUptoRow : OpenClaim := { program := "ytildhljhbbhmmaa", sum := "91da619ab8dddd43b5ec017d0c1175e2f5d1b5272e2128971986f7ae604c07d0", func := "wherryman/wherrylaw2.StreamMatches", spec := "streamMatches", inPlace := ["math/bits.Add64", "internal/abi.NoEscape", "internal/bytealg.MakeNoZero"], unfollowed := true, recurses := true, apart := false, narrowed := true }
def StreamMatchesUptoSaid : Prop := streamMatchesUptoRow.holds Try.pinned (OpenSpec.upto streamMatchesSpec)

/-- 'wherrylaw2.SecretsMatch', WHERE WHAT IT READS IS OF BULK AT MOST 1048576: true; the input reads as it did. -/
def secretsMatchUptoRow : OpenClaim := { program := "ytildhljhbbhmmaa", sum := "91da619ab8dddd43b5ec017d0c1175e2f5d1b5272e2128971986f7ae604c07d0", func := "wherryman/wherrylaw2.SecretsMatch", spec := "secretsMatch", inPlace := ["internal/abi.NoEscape", "internal/bytealg.MakeNoZero", "math/bits.Add64"], unfollowed := true, recurses := true, apart := false, narrowed := true }
def SecretsMatchUptoSaid : Prop := secretsMatchUptoRow.holds Try.pinned (OpenSpec.upto secretsMatchSpec)

/-- 'wherrylaw2.SharesMatch', WHERE WHAT IT READS IS OF BULK AT MOST 1048576: true; the input reads as it did. -/
def sharesMatchUptoRow : OpenClaim := { program := "ytildhljhbbhmmaa", sum := "91da619ab8dddd43b5ec017d0c1175e2f5d1b5272e2128971986f7ae604c07d0", func := "wherryman/wherrylaw2.SharesMatch", spec := "sharesMatch", inPlace := ["internal/abi.NoEscape", "internal/bytealg.MakeNoZero", "math/bits.Add64"], unfollowed := true, recurses := true, apart := false, narrowed := true }
def SharesMatchUptoSaid : Prop := sharesMatchUptoRow.holds Try.pinned (OpenSpec.upto sharesMatchSpec)

/-- 'wherrylaw2.ResealMatches', WHERE WHAT IT READS IS OF BULK AT MOST 1048576: true; the input reads as it did. -/
def resealMatchesUptoRow : OpenClaim := { program := "ytildhljhbbhmmaa", sum := "91da619ab8dddd43b5ec017d0c1175e2f5d1b5272e2128971986f7ae604c07d0", func := "wherryman/wherrylaw2.ResealMatches", spec := "resealMatches", inPlace := ["internal/abi.NoEscape", "internal/bytealg.MakeNoZero", "math/bits.Add64"], unfollowed := true, recurses := true, apart := false, narrowed := true }
def ResealMatchesUptoSaid : Prop := resealMatchesUptoRow.holds Try.pinned (OpenSpec.upto resealMatchesSpec)

/-- 'wherrylaw2.PartsRefuse', WHERE WHAT IT READS IS OF BULK AT MOST 1048576: true; the input reads as it did. -/
def partsRefuseUptoRow : OpenClaim := { program := "ytildhljhbbhmmaa", sum := "91da619ab8dddd43b5ec017d0c1175e2f5d1b5272e2128971986f7ae604c07d0", func := "wherryman/wherrylaw2.PartsRefuse", spec := "partsRefuse", inPlace := ["internal/abi.NoEscape", "internal/bytealg.MakeNoZero", "math/bits.Add64"], unfollowed := true, recurses := true, apart := false, narrowed := true }
def PartsRefuseUptoSaid : Prop := partsRefuseUptoRow.holds Try.pinned (OpenSpec.upto partsRefuseSpec)

/-- 'wherrylaw2.FilesRefuse', WHERE WHAT IT READS IS OF BULK AT MOST 1048576: true; the input reads as it did. -/
def filesRefuseUptoRow : OpenClaim := { program := "ytildhljhbbhmmaa", sum := "91da619ab8dddd43b5ec017d0c1175e2f5d1b5272e2128971986f7ae604c07d0", func := "wherryman/wherrylaw2.FilesRefuse", spec := "filesRefuse", inPlace := ["internal/abi.NoEscape", "internal/bytealg.MakeNoZero", "math/bits.Add64"], unfollowed := true, recurses := true, apart := false, narrowed := true }
def FilesRefuseUptoSaid : Prop := filesRefuseUptoRow.holds Try.pinned (OpenSpec.upto filesRefuseSpec)

/-- 'wherrylaw2.FilesMatch', WHERE WHAT IT READS IS OF BULK AT MOST 1048576: true; the input reads as it did. -/
def filesMatchUptoRow : OpenClaim := { program := "ytildhljhbbhmmaa", sum := "91da619ab8dddd43b5ec017d0c1175e2f5d1b5272e2128971986f7ae604c07d0", func := "wherryman/wherrylaw2.FilesMatch", spec := "filesMatch", inPlace := ["internal/abi.NoEscape", "internal/bytealg.MakeNoZero", "math/bits.Add64"], unfollowed := true, recurses := true, apart := false, narrowed := true }
def FilesMatchUptoSaid : Prop := filesMatchUptoRow.holds Try.pinned (OpenSpec.upto filesMatchSpec)

end Rows
end Go.Proofs.Ytildhljhbbhmmaa

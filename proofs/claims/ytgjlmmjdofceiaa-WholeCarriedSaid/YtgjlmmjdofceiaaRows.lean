/-
  No cell of these rows narrows 'for every input' (looked for: loops, veiled, ifaces, maps, wideKeys, modest, calm, conditions, laid).
  DERIVED. THE GIVEN ROWS OF THIS SEAT. 9 by the template 'for every input the law returns true; each argument reads behind the call as it read before'; 0 by the template 'total and deterministic' (their statements: YtgjlmmjdofceiaaTotals.lean).
  GIVEN WITH THE SEED: the statements are not yours to turn. If you find one false, say at which input.
  Laid BY PROGRAM, IN A SANDBOX (cutbox-rows.mjs): the forced cells as the released guide's own fill.sh prints them over the translation 29813f80bea4103c… (all of the seat's roots in one cut). By AI agents, Wed Nov 11 2026. No macro, syntax, notation, axiom, sorry.
-/
import Derived.Test.YtgjlmmjdofceiaaChecked
import GoSem.Claim
import GoSem.ClaimJoined
import GoSem.ClaimMapViews
import Derived.JoinedTies
import Derived.KernelRfl
namespace Go.Proofs.Ytgjlmmjdofceiaa
/- THE CELL 'sum', in the pinned program and in every row, IS THE sha256 OF THE DUMP (.gsa) THAT YtgjlmmjdofceiaaProg.lean LOADS. Nothing in Lean hashes anything: it is a label: what it is worth is what the hold of that sum in a sandbox is worth. -/
noncomputable def Try.pinned : Pinned := { name := "ytgjlmmjdofceiaa", sum := "29813f80bea4103cad99b0c35d9992e7812c74d12a115a64adebb591d4e21bfa", checked := Try.checked }
namespace Rows
def none {H : Type} : Left H := { results := [], args := [] }

/-- 'purserlaw08.MerkleHalves': WHATEVER THE INPUT: true; the input reads as it did. -/
def merkleHalvesSpec : ChangeSpec := { name := "merkleHalves", fn := fun _ => fun
  | [d] => { results := [.lit (.bool true)], args := [d] }
  | _ => none }
def merkleHalvesRow : OpenClaim := { program := "ytgjlmmjdofceiaa", sum := "29813f80bea4103cad99b0c35d9992e7812c74d12a115a64adebb591d4e21bfa", func := "purser/purserlaw08.MerkleHalves", spec := "merkleHalves", unfollowed := true, recurses := true, plainKeys := false, apart := false }
def MerkleHalvesSaid : Prop := merkleHalvesRow.holds Try.pinned (OpenSpec.ofChange merkleHalvesSpec)

/-- ITS FALSE NEIGHBOUR: 'it returns false'. Refute it at one input. -/
def merkleHalvesWrong : ChangeSpec := { name := "merkleHalves", fn := fun _ => fun
  | [d] => { results := [.lit (.bool false)], args := [d] }
  | _ => none }
def MerkleHalvesWrongFalsely : Prop := merkleHalvesRow.holds Try.pinned (OpenSpec.ofChange merkleHalvesWrong)

/-- 'purserlaw08.MerkleSwells': WHATEVER THE INPUT: true; the input reads as it did. -/
def merkleSwellsSpec : ChangeSpec := { name := "merkleSwells", fn := fun _ => fun
  | [d] => { results := [.lit (.bool true)], args := [d] }
  | _ => none }
def merkleSwellsRow : OpenClaim := { program := "ytgjlmmjdofceiaa", sum := "29813f80bea4103cad99b0c35d9992e7812c74d12a115a64adebb591d4e21bfa", func := "purser/purserlaw08.MerkleSwells", spec := "merkleSwells", unfollowed := true, recurses := true, plainKeys := false, apart := false }
def MerkleSwellsSaid : Prop := merkleSwellsRow.holds Try.pinned (OpenSpec.ofChange merkleSwellsSpec)

/-- ITS FALSE NEIGHBOUR: 'it returns false'. Refute it at one input. -/
def merkleSwellsWrong : ChangeSpec := { name := "merkleSwells", fn := fun _ => fun
  | [d] => { results := [.lit (.bool false)], args := [d] }
  | _ => none }
def MerkleSwellsWrongFalsely : Prop := merkleSwellsRow.holds Try.pinned (OpenSpec.ofChange merkleSwellsWrong)

/-- 'purserlaw08.MerkleProves': WHATEVER THE INPUT: true; the input reads as it did. -/
def merkleProvesSpec : ChangeSpec := { name := "merkleProves", fn := fun _ => fun
  | [d1, d2, d3] => { results := [.lit (.bool true)], args := [d1, d2, d3] }
  | _ => none }
def merkleProvesRow : OpenClaim := { program := "ytgjlmmjdofceiaa", sum := "29813f80bea4103cad99b0c35d9992e7812c74d12a115a64adebb591d4e21bfa", func := "purser/purserlaw08.MerkleProves", spec := "merkleProves", unfollowed := true, recurses := true, plainKeys := false, apart := false }
def MerkleProvesSaid : Prop := merkleProvesRow.holds Try.pinned (OpenSpec.ofChange merkleProvesSpec)

/-- ITS FALSE NEIGHBOUR: 'it returns false'. Refute it at one input. -/
def merkleProvesWrong : ChangeSpec := { name := "merkleProves", fn := fun _ => fun
  | [d1, d2, d3] => { results := [.lit (.bool false)], args := [d1, d2, d3] }
  | _ => none }
def MerkleProvesWrongFalsely : Prop := merkleProvesRow.holds Try.pinned (OpenSpec.ofChange merkleProvesWrong)

/-- 'purserlaw08.MerkleRoots': WHATEVER THE INPUT: true; the input reads as it did. -/
def merkleRootsSpec : ChangeSpec := { name := "merkleRoots", fn := fun _ => fun
  | [d1, d2, d3, d4, d5, d6] => { results := [.lit (.bool true)], args := [d1, d2, d3, d4, d5, d6] }
  | _ => none }
def merkleRootsRow : OpenClaim := { program := "ytgjlmmjdofceiaa", sum := "29813f80bea4103cad99b0c35d9992e7812c74d12a115a64adebb591d4e21bfa", func := "purser/purserlaw08.MerkleRoots", spec := "merkleRoots", unfollowed := true, recurses := true, plainKeys := false, apart := false }
def MerkleRootsSaid : Prop := merkleRootsRow.holds Try.pinned (OpenSpec.ofChange merkleRootsSpec)

/-- ITS FALSE NEIGHBOUR: 'it returns false'. Refute it at one input. -/
def merkleRootsWrong : ChangeSpec := { name := "merkleRoots", fn := fun _ => fun
  | [d1, d2, d3, d4, d5, d6] => { results := [.lit (.bool false)], args := [d1, d2, d3, d4, d5, d6] }
  | _ => none }
def MerkleRootsWrongFalsely : Prop := merkleRootsRow.holds Try.pinned (OpenSpec.ofChange merkleRootsWrong)

/-- 'purserlaw08.MerkleNames': WHATEVER THE INPUT: true; the input reads as it did. -/
def merkleNamesSpec : ChangeSpec := { name := "merkleNames", fn := fun _ => fun
  | [] => { results := [.lit (.bool true)], args := [] }
  | _ => none }
def merkleNamesRow : OpenClaim := { program := "ytgjlmmjdofceiaa", sum := "29813f80bea4103cad99b0c35d9992e7812c74d12a115a64adebb591d4e21bfa", func := "purser/purserlaw08.MerkleNames", spec := "merkleNames", unfollowed := true, recurses := true, plainKeys := false, apart := false }
def MerkleNamesSaid : Prop := merkleNamesRow.holds Try.pinned (OpenSpec.ofChange merkleNamesSpec)

/-- ITS FALSE NEIGHBOUR: 'it returns false'. Refute it at one input. -/
def merkleNamesWrong : ChangeSpec := { name := "merkleNames", fn := fun _ => fun
  | [] => { results := [.lit (.bool false)], args := [] }
  | _ => none }
def MerkleNamesWrongFalsely : Prop := merkleNamesRow.holds Try.pinned (OpenSpec.ofChange merkleNamesWrong)

/-- 'purserlaw24.WholeAgain': WHATEVER THE INPUT: true; the input reads as it did. -/
def wholeAgainSpec : ChangeSpec := { name := "wholeAgain", fn := fun _ => fun
  | [d1, d2] => { results := [.lit (.bool true)], args := [d1, d2] }
  | _ => none }
def wholeAgainRow : OpenClaim := { program := "ytgjlmmjdofceiaa", sum := "29813f80bea4103cad99b0c35d9992e7812c74d12a115a64adebb591d4e21bfa", func := "purser/purserlaw24.WholeAgain", spec := "wholeAgain", inPlace := ["internal/bytealg.MakeNoZero"], unfollowed := true, recurses := true, plainKeys := false, apart := false }
def WholeAgainSaid : Prop := wholeAgainRow.holds Try.pinned (OpenSpec.ofChange wholeAgainSpec)

/-- ITS FALSE NEIGHBOUR: 'it returns false'. Refute it at one input. -/
def wholeAgainWrong : ChangeSpec := { name := "wholeAgain", fn := fun _ => fun
  | [d1, d2] => { results := [.lit (.bool false)], args := [d1, d2] }
  | _ => none }
def WholeAgainWrongFalsely : Prop := wholeAgainRow.holds Try.pinned (OpenSpec.ofChange wholeAgainWrong)

/-- 'purserlaw24.WholeSums': WHATEVER THE INPUT: true; the input reads as it did. -/
def wholeSumsSpec : ChangeSpec := { name := "wholeSums", fn := fun _ => fun
  | [d] => { results := [.lit (.bool true)], args := [d] }
  | _ => none }
def wholeSumsRow : OpenClaim := { program := "ytgjlmmjdofceiaa", sum := "29813f80bea4103cad99b0c35d9992e7812c74d12a115a64adebb591d4e21bfa", func := "purser/purserlaw24.WholeSums", spec := "wholeSums", inPlace := ["internal/bytealg.MakeNoZero"], unfollowed := true, recurses := true, plainKeys := false, apart := false }
def WholeSumsSaid : Prop := wholeSumsRow.holds Try.pinned (OpenSpec.ofChange wholeSumsSpec)

/-- ITS FALSE NEIGHBOUR: 'it returns false'. Refute it at one input. -/
def wholeSumsWrong : ChangeSpec := { name := "wholeSums", fn := fun _ => fun
  | [d] => { results := [.lit (.bool false)], args := [d] }
  | _ => none }
def WholeSumsWrongFalsely : Prop := wholeSumsRow.holds Try.pinned (OpenSpec.ofChange wholeSumsWrong)

/-- 'purserlaw24.WholeNames': WHATEVER THE INPUT: true; the input reads as it did. -/
def wholeNamesSpec : ChangeSpec := { name := "wholeNames", fn := fun _ => fun
  | [] => { results := [.lit (.bool true)], args := [] }
  | _ => none }
def wholeNamesRow : OpenClaim := { program := "ytgjlmmjdofceiaa", sum := "29813f80bea4103cad99b0c35d9992e7812c74d12a115a64adebb591d4e21bfa", func := "purser/purserlaw24.WholeNames", spec := "wholeNames", inPlace := ["internal/bytealg.MakeNoZero"], unfollowed := true, recurses := true, plainKeys := false, apart := false }
def WholeNamesSaid : Prop := wholeNamesRow.holds Try.pinned (OpenSpec.ofChange wholeNamesSpec)

/-- ITS FALSE NEIGHBOUR: 'it returns false'. Refute it at one input. -/
def wholeNamesWrong : ChangeSpec := { name := "wholeNames", fn := fun _ => fun
  | [] => { results := [.lit (.bool false)], args := [] }
  | _ => none }
def WholeNamesWrongFalsely : Prop := wholeNamesRow.holds Try.pinned (OpenSpec.ofChange wholeNamesWrong)

/-- 'purserlaw24.WholeCarried': WHATEVER THE INPUT: true; the input reads as it did. -/
def wholeCarriedSpec : ChangeSpec := { name := "wholeCarried", fn := fun _ => fun
  | [d1, d2, d3, d4, d5] => { results := [.lit (.bool true)], args := [d1, d2, d3, d4, d5] }
  | _ => none }
def wholeCarriedRow : OpenClaim := { program := "ytgjlmmjdofceiaa", sum := "29813f80bea4103cad99b0c35d9992e7812c74d12a115a64adebb591d4e21bfa", func := "purser/purserlaw24.WholeCarried", spec := "wholeCarried", inPlace := ["internal/bytealg.MakeNoZero"], unfollowed := true, recurses := true, plainKeys := false, apart := false }
def WholeCarriedSaid : Prop := wholeCarriedRow.holds Try.pinned (OpenSpec.ofChange wholeCarriedSpec)

/-- ITS FALSE NEIGHBOUR: 'it returns false'. Refute it at one input. -/
def wholeCarriedWrong : ChangeSpec := { name := "wholeCarried", fn := fun _ => fun
  | [d1, d2, d3, d4, d5] => { results := [.lit (.bool false)], args := [d1, d2, d3, d4, d5] }
  | _ => none }
def WholeCarriedWrongFalsely : Prop := wholeCarriedRow.holds Try.pinned (OpenSpec.ofChange wholeCarriedWrong)

/- THE SECOND FORM. 'bulk': how many values and letters a reading holds, each counted each time it is reached (what is shared counts as often as it is met; a slice's spare places count too). A statement '..UptoSaid' is the law's where the arguments, and the package variables that the reading takes, are together of bulk at most 1048576: NARROWER than '..Said'. Prove '..Said' where nothing that the law and all that it calls make is longer than what came in: it says more and counts as full. Else prove '..UptoSaid'. A law counts once. -/
mutual
def uptoBulk {H : Type} : DataW H → Nat
  | .lit (.string bytes) => bytes.length + 1
  | .lit _ => 1
  | .nil => 1
  | .ptr d => uptoBulk d + 1
  | .slice elems spare => uptoBulkAll elems + uptoBulkAll spare + 1
  | .agg parts => uptoBulkAll parts + 1
  | .iface _ d => uptoBulk d + 1
  | .map entries => uptoBulkEntries entries + 1
  | .held _ => 1
def uptoBulkAll {H : Type} : List (DataW H) → Nat
  | [] => 0
  | d :: r => uptoBulk d + uptoBulkAll r
def uptoBulkEntries {H : Type} : List (Lit × DataW H) → Nat
  | [] => 0
  | x :: r => uptoBulkEntry x + uptoBulkEntries r
def uptoBulkEntry {H : Type} : Lit × DataW H → Nat
  | (.string bytes, d) => bytes.length + uptoBulk d + 1
  | (_, d) => uptoBulk d + 1
 end
def uptoSmall : (H : Type) → List (DataW H) → Bool := fun _ ds => decide (uptoBulkAll ds ≤ 1048576)
def OpenSpec.upto (s : _root_.Go.ChangeSpec) : _root_.Go.OpenSpec := { _root_.Go.OpenSpec.ofChange s with cond := some uptoSmall }

/-- 'purserlaw08.MerkleHalves', WHERE WHAT IT READS IS OF BULK AT MOST 1048576: true; the input reads as it did. -/
def merkleHalvesUptoRow : OpenClaim := { program := "ytgjlmmjdofceiaa", sum := "29813f80bea4103cad99b0c35d9992e7812c74d12a115a64adebb591d4e21bfa", func := "purser/purserlaw08.MerkleHalves", spec := "merkleHalves", unfollowed := true, recurses := true, plainKeys := false, apart := false, narrowed := true }
def MerkleHalvesUptoSaid : Prop := merkleHalvesUptoRow.holds Try.pinned (OpenSpec.upto merkleHalvesSpec)

/-- 'purserlaw08.MerkleSwells', WHERE WHAT IT READS IS OF BULK AT MOST 1048576: true; the input reads as it did. -/
def merkleSwellsUptoRow : OpenClaim := { program := "ytgjlmmjdofceiaa", sum := "29813f80bea4103cad99b0c35d9992e7812c74d12a115a64adebb591d4e21bfa", func := "purser/purserlaw08.MerkleSwells", spec := "merkleSwells", unfollowed := true, recurses := true, plainKeys := false, apart := false, narrowed := true }
def MerkleSwellsUptoSaid : Prop := merkleSwellsUptoRow.holds Try.pinned (OpenSpec.upto merkleSwellsSpec)

/-- 'purserlaw08.MerkleProves', WHERE WHAT IT READS IS OF BULK AT MOST 1048576: true; the input reads as it did. -/
def merkleProvesUptoRow : OpenClaim := { program := "ytgjlmmjdofceiaa", sum := "29813f80bea4103cad99b0c35d9992e7812c74d12a115a64adebb591d4e21bfa", func := "purser/purserlaw08.MerkleProves", spec := "merkleProves", unfollowed := true, recurses := true, plainKeys := false, apart := false, narrowed := true }
def MerkleProvesUptoSaid : Prop := merkleProvesUptoRow.holds Try.pinned (OpenSpec.upto merkleProvesSpec)

/-- 'purserlaw08.MerkleRoots', WHERE WHAT IT READS IS OF BULK AT MOST 1048576: true; the input reads as it did. -/
def merkleRootsUptoRow : OpenClaim := { program := "ytgjlmmjdofceiaa", sum := "29813f80bea4103cad99b0c35d9992e7812c74d12a115a64adebb591d4e21bfa", func := "purser/purserlaw08.MerkleRoots", spec := "merkleRoots", unfollowed := true, recurses := true, plainKeys := false, apart := false, narrowed := true }
def MerkleRootsUptoSaid : Prop := merkleRootsUptoRow.holds Try.pinned (OpenSpec.upto merkleRootsSpec)

/-- 'purserlaw08.MerkleNames', WHERE WHAT IT READS IS OF BULK AT MOST 1048576: true; the input reads as it did. -/
def merkleNamesUptoRow : OpenClaim := { program := "ytgjlmmjdofceiaa", sum := "29813f80bea4103cad99b0c35d9992e7812c74d12a115a64adebb591d4e21bfa", func := "purser/purserlaw08.MerkleNames", spec := "merkleNames", unfollowed := true, recurses := true, plainKeys := false, apart := false, narrowed := true }
def MerkleNamesUptoSaid : Prop := merkleNamesUptoRow.holds Try.pinned (OpenSpec.upto merkleNamesSpec)

/-- 'purserlaw24.WholeAgain', WHERE WHAT IT READS IS OF BULK AT MOST 1048576: true; the input reads as it did. -/
def wholeAgainUptoRow : OpenClaim := { program := "ytgjlmmjdofceiaa", sum := "29813f80bea4103cad99b0c35d9992e7812c74d12a115a64adebb591d4e21bfa", func := "purser/purserlaw24.WholeAgain", spec := "wholeAgain", inPlace := ["internal/bytealg.MakeNoZero"], unfollowed := true, recurses := true, plainKeys := false, apart := false, narrowed := true }
def WholeAgainUptoSaid : Prop := wholeAgainUptoRow.holds Try.pinned (OpenSpec.upto wholeAgainSpec)

/-- 'purserlaw24.WholeSums', WHERE WHAT IT READS IS OF BULK AT MOST 1048576: true; the input reads as it did. -/
def wholeSumsUptoRow : OpenClaim := { program := "ytgjlmmjdofceiaa", sum := "29813f80bea4103cad99b0c35d9992e7812c74d12a115a64adebb591d4e21bfa", func := "purser/purserlaw24.WholeSums", spec := "wholeSums", inPlace := ["internal/bytealg.MakeNoZero"], unfollowed := true, recurses := true, plainKeys := false, apart := false, narrowed := true }
def WholeSumsUptoSaid : Prop := wholeSumsUptoRow.holds Try.pinned (OpenSpec.upto wholeSumsSpec)

/-- 'purserlaw24.WholeNames', WHERE WHAT IT READS IS OF BULK AT MOST 1048576: true; the input reads as it did. -/
def wholeNamesUptoRow : OpenClaim := { program := "ytgjlmmjdofceiaa", sum := "29813f80bea4103cad99b0c35d9992e7812c74d12a115a64adebb591d4e21bfa", func := "purser/purserlaw24.WholeNames", spec := "wholeNames", inPlace := ["internal/bytealg.MakeNoZero"], unfollowed := true, recurses := true, plainKeys := false, apart := false, narrowed := true }
def WholeNamesUptoSaid : Prop := wholeNamesUptoRow.holds Try.pinned (OpenSpec.upto wholeNamesSpec)

/-- 'purserlaw24.WholeCarried', WHERE WHAT IT READS IS OF BULK AT MOST 1048576: true; the input reads as it did. -/
def wholeCarriedUptoRow : OpenClaim := { program := "ytgjlmmjdofceiaa", sum := "29813f80bea4103cad99b0c35d9992e7812c74d12a115a64adebb591d4e21bfa", func := "purser/purserlaw24.WholeCarried", spec := "wholeCarried", inPlace := ["internal/bytealg.MakeNoZero"], unfollowed := true, recurses := true, plainKeys := false, apart := false, narrowed := true }
def WholeCarriedUptoSaid : Prop := wholeCarriedUptoRow.holds Try.pinned (OpenSpec.upto wholeCarriedSpec)

end Rows
end Go.Proofs.Ytgjlmmjdofceiaa

/-
  No cell of these rows narrows 'for every input' (looked for: loops, veiled, ifaces, maps, wideKeys, modest, calm, conditions, laid).
  DERIVED. THE GIVEN ROWS OF THIS SEAT. 6 by the template 'for every input the law returns true; each argument reads behind the call as it read before'; 0 by the template 'total and deterministic' (their statements: YtdnodloinlijaaaTotals.lean).
  GIVEN WITH THE SEED: the statements are not yours to turn. If you find one false, say at which input.
  Laid BY PROGRAM, IN A SANDBOX (cutbox-rows.mjs): the forced cells as the released guide's own fill.sh prints them over the translation 67ae33efebc3af98… (all of the seat's roots in one cut). By AI agents, Wed Nov 11 2026. No macro, syntax, notation, axiom, sorry.
-/
import Derived.Test.YtdnodloinlijaaaChecked
import GoSem.Claim
import GoSem.ClaimJoined
import GoSem.ClaimMapViews
import Derived.JoinedTies
import Derived.KernelRfl
namespace Go.Proofs.Ytdnodloinlijaaa
/- THE CELL 'sum', in the pinned program and in every row, IS THE sha256 OF THE DUMP (.gsa) THAT YtdnodloinlijaaaProg.lean LOADS. Nothing in Lean hashes anything: it is a label: what it is worth is what the hold of that sum in a sandbox is worth. -/
noncomputable def Try.pinned : Pinned := { name := "ytdnodloinlijaaa", sum := "67ae33efebc3af9817540183d584d6e834828645796cedb16149b50f629d15da", checked := Try.checked }
namespace Rows
def none {H : Type} : Left H := { results := [], args := [] }

/-- 'sawmilllaw49.TruckSums': WHATEVER THE INPUT: true; the input reads as it did. -/
def truckSumsSpec : ChangeSpec := { name := "truckSums", fn := fun _ => fun
  | [d1, d2] => { results := [.lit (.bool true)], args := [d1, d2] }
  | _ => none }
def truckSumsRow : OpenClaim := { program := "ytdnodloinlijaaa", sum := "67ae33efebc3af9817540183d584d6e834828645796cedb16149b50f629d15da", func := "sawmill/sawmilllaw49.TruckSums", spec := "truckSums", recurses := true, apart := false }
def TruckSumsSaid : Prop := truckSumsRow.holds Try.pinned (OpenSpec.ofChange truckSumsSpec)

/-- ITS FALSE NEIGHBOUR: 'it returns false'. Refute it at one input. -/
def truckSumsWrong : ChangeSpec := { name := "truckSums", fn := fun _ => fun
  | [d1, d2] => { results := [.lit (.bool false)], args := [d1, d2] }
  | _ => none }
def TruckSumsWrongFalsely : Prop := truckSumsRow.holds Try.pinned (OpenSpec.ofChange truckSumsWrong)

/-- 'sawmilllaw49.TruckBests': WHATEVER THE INPUT: true; the input reads as it did. -/
def truckBestsSpec : ChangeSpec := { name := "truckBests", fn := fun _ => fun
  | [d] => { results := [.lit (.bool true)], args := [d] }
  | _ => none }
def truckBestsRow : OpenClaim := { program := "ytdnodloinlijaaa", sum := "67ae33efebc3af9817540183d584d6e834828645796cedb16149b50f629d15da", func := "sawmill/sawmilllaw49.TruckBests", spec := "truckBests", recurses := true, apart := false }
def TruckBestsSaid : Prop := truckBestsRow.holds Try.pinned (OpenSpec.ofChange truckBestsSpec)

/-- ITS FALSE NEIGHBOUR: 'it returns false'. Refute it at one input. -/
def truckBestsWrong : ChangeSpec := { name := "truckBests", fn := fun _ => fun
  | [d] => { results := [.lit (.bool false)], args := [d] }
  | _ => none }
def TruckBestsWrongFalsely : Prop := truckBestsRow.holds Try.pinned (OpenSpec.ofChange truckBestsWrong)

/-- 'sawmilllaw49.TruckTrips': WHATEVER THE INPUT: true; the input reads as it did. -/
def truckTripsSpec : ChangeSpec := { name := "truckTrips", fn := fun _ => fun
  | [d] => { results := [.lit (.bool true)], args := [d] }
  | _ => none }
def truckTripsRow : OpenClaim := { program := "ytdnodloinlijaaa", sum := "67ae33efebc3af9817540183d584d6e834828645796cedb16149b50f629d15da", func := "sawmill/sawmilllaw49.TruckTrips", spec := "truckTrips", recurses := true, apart := false }
def TruckTripsSaid : Prop := truckTripsRow.holds Try.pinned (OpenSpec.ofChange truckTripsSpec)

/-- ITS FALSE NEIGHBOUR: 'it returns false'. Refute it at one input. -/
def truckTripsWrong : ChangeSpec := { name := "truckTrips", fn := fun _ => fun
  | [d] => { results := [.lit (.bool false)], args := [d] }
  | _ => none }
def TruckTripsWrongFalsely : Prop := truckTripsRow.holds Try.pinned (OpenSpec.ofChange truckTripsWrong)

/-- 'sawmilllaw49.TruckOptimal': WHATEVER THE INPUT: true; the input reads as it did. -/
def truckOptimalSpec : ChangeSpec := { name := "truckOptimal", fn := fun _ => fun
  | [d1, d2] => { results := [.lit (.bool true)], args := [d1, d2] }
  | _ => none }
def truckOptimalRow : OpenClaim := { program := "ytdnodloinlijaaa", sum := "67ae33efebc3af9817540183d584d6e834828645796cedb16149b50f629d15da", func := "sawmill/sawmilllaw49.TruckOptimal", spec := "truckOptimal", recurses := true, apart := false }
def TruckOptimalSaid : Prop := truckOptimalRow.holds Try.pinned (OpenSpec.ofChange truckOptimalSpec)

/-- ITS FALSE NEIGHBOUR: 'it returns false'. Refute it at one input. -/
def truckOptimalWrong : ChangeSpec := { name := "truckOptimal", fn := fun _ => fun
  | [d1, d2] => { results := [.lit (.bool false)], args := [d1, d2] }
  | _ => none }
def TruckOptimalWrongFalsely : Prop := truckOptimalRow.holds Try.pinned (OpenSpec.ofChange truckOptimalWrong)

/-- 'sawmilllaw49.TruckGreater': WHATEVER THE INPUT: true; the input reads as it did. -/
def truckGreaterSpec : ChangeSpec := { name := "truckGreater", fn := fun _ => fun
  | [d1, d2] => { results := [.lit (.bool true)], args := [d1, d2] }
  | _ => none }
def truckGreaterRow : OpenClaim := { program := "ytdnodloinlijaaa", sum := "67ae33efebc3af9817540183d584d6e834828645796cedb16149b50f629d15da", func := "sawmill/sawmilllaw49.TruckGreater", spec := "truckGreater", recurses := true, apart := false }
def TruckGreaterSaid : Prop := truckGreaterRow.holds Try.pinned (OpenSpec.ofChange truckGreaterSpec)

/-- ITS FALSE NEIGHBOUR: 'it returns false'. Refute it at one input. -/
def truckGreaterWrong : ChangeSpec := { name := "truckGreater", fn := fun _ => fun
  | [d1, d2] => { results := [.lit (.bool false)], args := [d1, d2] }
  | _ => none }
def TruckGreaterWrongFalsely : Prop := truckGreaterRow.holds Try.pinned (OpenSpec.ofChange truckGreaterWrong)

/-- 'sawmilllaw49.TruckLoads': WHATEVER THE INPUT: true; the input reads as it did. -/
def truckLoadsSpec : ChangeSpec := { name := "truckLoads", fn := fun _ => fun
  | [d] => { results := [.lit (.bool true)], args := [d] }
  | _ => none }
def truckLoadsRow : OpenClaim := { program := "ytdnodloinlijaaa", sum := "67ae33efebc3af9817540183d584d6e834828645796cedb16149b50f629d15da", func := "sawmill/sawmilllaw49.TruckLoads", spec := "truckLoads", recurses := true, apart := false }
def TruckLoadsSaid : Prop := truckLoadsRow.holds Try.pinned (OpenSpec.ofChange truckLoadsSpec)

/-- ITS FALSE NEIGHBOUR: 'it returns false'. Refute it at one input. -/
def truckLoadsWrong : ChangeSpec := { name := "truckLoads", fn := fun _ => fun
  | [d] => { results := [.lit (.bool false)], args := [d] }
  | _ => none }
def TruckLoadsWrongFalsely : Prop := truckLoadsRow.holds Try.pinned (OpenSpec.ofChange truckLoadsWrong)

/- THE SECOND FORM. 'bulk': how many values and letters a reading holds, each counted each time it is reached (what is shared counts as often as it is met; a slice's spare places count too). A statement '..UptoSaid' is the law's where the arguments, and the package variables that the reading takes, are together of bulk at most 1048576: NARROWER than '..Said'. Prove '..Said' where nothing that the law and all that it calls make is longer than what came in: it says more and counts as full. Else prove '..UptoSaid'. A law counts once. -/
mutual
def uptoBulk {H : Type} : DataW H → Nat
  | .lit (.string bytes) => bytes.length + 1
  | .lit _ => 1
  | .nil => 1
  | .ptr d => uptoBulk d + 1
  | .slice elems spare => uptoBulkAll elems + uptoBulkAll spare + 1
  | .agg parts => uptoBulkAll parts + 1
  | .iface _ d => uptoBulk d + 1
  | .map entries => uptoBulkEntries entries + 1
  | .held _ => 1
def uptoBulkAll {H : Type} : List (DataW H) → Nat
  | [] => 0
  | d :: r => uptoBulk d + uptoBulkAll r
def uptoBulkEntries {H : Type} : List (Lit × DataW H) → Nat
  | [] => 0
  | x :: r => uptoBulkEntry x + uptoBulkEntries r
def uptoBulkEntry {H : Type} : Lit × DataW H → Nat
  | (.string bytes, d) => bytes.length + uptoBulk d + 1
  | (_, d) => uptoBulk d + 1
 end
def uptoSmall : (H : Type) → List (DataW H) → Bool := fun _ ds => decide (uptoBulkAll ds ≤ 1048576)
def OpenSpec.upto (s : _root_.Go.ChangeSpec) : _root_.Go.OpenSpec := { _root_.Go.OpenSpec.ofChange s with cond := some uptoSmall }

/-- 'sawmilllaw49.TruckSums', WHERE WHAT IT READS IS OF BULK AT MOST 1048576: true; the input reads as it did. -/
def truckSumsUptoRow : OpenClaim := { program := "ytdnodloinlijaaa", sum := "67ae33efebc3af9817540183d584d6e834828645796cedb16149b50f629d15da", func := "sawmill/sawmilllaw49.TruckSums", spec := "truckSums", recurses := true, apart := false, narrowed := true }
def TruckSumsUptoSaid : Prop := truckSumsUptoRow.holds Try.pinned (OpenSpec.upto truckSumsSpec)

/-- 'sawmilllaw49.TruckBests', WHERE WHAT IT READS IS OF BULK AT MOST 1048576: true; the input reads as it did. -/
def truckBestsUptoRow : OpenClaim := { program := "ytdnodloinlijaaa", sum := "67ae33efebc3af9817540183d584d6e834828645796cedb16149b50f629d15da", func := "sawmill/sawmilllaw49.TruckBests", spec := "truckBests", recurses := true, apart := false, narrowed := true }
def TruckBestsUptoSaid : Prop := truckBestsUptoRow.holds Try.pinned (OpenSpec.upto truckBestsSpec)

/-- 'sawmilllaw49.TruckTrips', WHERE WHAT IT READS IS OF BULK AT MOST 1048576: true; the input reads as it did. -/
def truckTripsUptoRow : OpenClaim := { program := "ytdnodloinlijaaa", sum := "67ae33efebc3af9817540183d584d6e834828645796cedb16149b50f629d15da", func := "sawmill/sawmilllaw49.TruckTrips", spec := "truckTrips", recurses := true, apart := false, narrowed := true }
def TruckTripsUptoSaid : Prop := truckTripsUptoRow.holds Try.pinned (OpenSpec.upto truckTripsSpec)

/-- 'sawmilllaw49.TruckOptimal', WHERE WHAT IT READS IS OF BULK AT MOST 1048576: true; the input reads as it did. -/
def truckOptimalUptoRow : OpenClaim := { program := "ytdnodloinlijaaa", sum := "67ae33efebc3af9817540183d584d6e834828645796cedb16149b50f629d15da", func := "sawmill/sawmilllaw49.TruckOptimal", spec := "truckOptimal", recurses := true, apart := false, narrowed := true }
def TruckOptimalUptoSaid : Prop := truckOptimalUptoRow.holds Try.pinned (OpenSpec.upto truckOptimalSpec)

/-- 'sawmilllaw49.TruckGreater', WHERE WHAT IT READS IS OF BULK AT MOST 1048576: true; the input reads as it did. -/
def truckGreaterUptoRow : OpenClaim := { program := "ytdnodloinlijaaa", sum := "67ae33efebc3af9817540183d584d6e834828645796cedb16149b50f629d15da", func := "sawmill/sawmilllaw49.TruckGreater", spec := "truckGreater", recurses := true, apart := false, narrowed := true }
def TruckGreaterUptoSaid : Prop := truckGreaterUptoRow.holds Try.pinned (OpenSpec.upto truckGreaterSpec)

/-- 'sawmilllaw49.TruckLoads', WHERE WHAT IT READS IS OF BULK AT MOST 1048576: true; the input reads as it did. -/
def truckLoadsUptoRow : OpenClaim := { program := "ytdnodloinlijaaa", sum := "67ae33efebc3af9817540183d584d6e834828645796cedb16149b50f629d15da", func := "sawmill/sawmilllaw49.TruckLoads", spec := "truckLoads", recurses := true, apart := false, narrowed := true }
def TruckLoadsUptoSaid : Prop := truckLoadsUptoRow.holds Try.pinned (OpenSpec.upto truckLoadsSpec)

end Rows
end Go.Proofs.Ytdnodloinlijaaa

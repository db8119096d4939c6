/-
  No cell of these rows narrows 'for every input' (looked for: loops, veiled, ifaces, maps, wideKeys, modest, calm, conditions, laid).
  DERIVED. THE GIVEN ROWS OF THIS SEAT. 10 by the template 'for every input the law returns true; each argument reads behind the call as it read before'; 0 by the template 'total and deterministic' (their statements: YthmlimkmcofkfaaTotals.lean).
  GIVEN WITH THE SEED: the statements are not yours to turn. If you find one false, say at which input.
  Laid BY PROGRAM, IN A SANDBOX (cutbox-rows.mjs): the forced cells as the released guide's own fill.sh prints them over the translation 2869a91585efb82f… (all of the seat's roots in one cut). By AI agents, Wed Nov 11 2026. No macro, syntax, notation, axiom, sorry.
-/
import Derived.Test.YthmlimkmcofkfaaChecked
import GoSem.Claim
import GoSem.ClaimJoined
import GoSem.ClaimMapViews
import Derived.JoinedTies
import Derived.KernelRfl
namespace Go.Proofs.Ythmlimkmcofkfaa
/- THE CELL 'sum', in the pinned program and in every row, IS THE sha256 OF THE DUMP (.gsa) THAT YthmlimkmcofkfaaProg.lean LOADS. Nothing in Lean hashes anything: it is a label: what it is worth is what the hold of that sum in a sandbox is worth. -/
noncomputable def Try.pinned : Pinned := { name := "ythmlimkmcofkfaa", sum := "2869a91585efb82fbd53a58d009d01977e8272c955b0aaf0007a802e2e9c5c54", checked := Try.checked }
namespace Rows
def none {H : Type} : Left H := { results := [], args := [] }

/-- 'stowagelaw02.MatrixPicks': WHATEVER THE INPUT: true; the input reads as it did. -/
def matrixPicksSpec : ChangeSpec := { name := "matrixPicks", fn := fun _ => fun
  | [d1, d2, d3, d4, d5] => { results := [.lit (.bool true)], args := [d1, d2, d3, d4, d5] }
  | _ => none }
def matrixPicksRow : OpenClaim := { program := "ythmlimkmcofkfaa", sum := "2869a91585efb82fbd53a58d009d01977e8272c955b0aaf0007a802e2e9c5c54", func := "stowage/stowagelaw02.MatrixPicks", spec := "matrixPicks", unfollowed := true, recurses := true, apart := false }
def MatrixPicksSaid : Prop := matrixPicksRow.holds Try.pinned (OpenSpec.ofChange matrixPicksSpec)

/-- ITS FALSE NEIGHBOUR: 'it returns false'. Refute it at one input. -/
def matrixPicksWrong : ChangeSpec := { name := "matrixPicks", fn := fun _ => fun
  | [d1, d2, d3, d4, d5] => { results := [.lit (.bool false)], args := [d1, d2, d3, d4, d5] }
  | _ => none }
def MatrixPicksWrongFalsely : Prop := matrixPicksRow.holds Try.pinned (OpenSpec.ofChange matrixPicksWrong)

/-- 'stowagelaw02.MatrixTells': WHATEVER THE INPUT: true; the input reads as it did. -/
def matrixTellsSpec : ChangeSpec := { name := "matrixTells", fn := fun _ => fun
  | [d1, d2] => { results := [.lit (.bool true)], args := [d1, d2] }
  | _ => none }
def matrixTellsRow : OpenClaim := { program := "ythmlimkmcofkfaa", sum := "2869a91585efb82fbd53a58d009d01977e8272c955b0aaf0007a802e2e9c5c54", func := "stowage/stowagelaw02.MatrixTells", spec := "matrixTells", unfollowed := true, recurses := true, apart := false }
def MatrixTellsSaid : Prop := matrixTellsRow.holds Try.pinned (OpenSpec.ofChange matrixTellsSpec)

/-- ITS FALSE NEIGHBOUR: 'it returns false'. Refute it at one input. -/
def matrixTellsWrong : ChangeSpec := { name := "matrixTells", fn := fun _ => fun
  | [d1, d2] => { results := [.lit (.bool false)], args := [d1, d2] }
  | _ => none }
def MatrixTellsWrongFalsely : Prop := matrixTellsRow.holds Try.pinned (OpenSpec.ofChange matrixTellsWrong)

/-- 'stowagelaw02.MatrixTurns': WHATEVER THE INPUT: true; the input reads as it did. -/
def matrixTurnsSpec : ChangeSpec := { name := "matrixTurns", fn := fun _ => fun
  | [d] => { results := [.lit (.bool true)], args := [d] }
  | _ => none }
def matrixTurnsRow : OpenClaim := { program := "ythmlimkmcofkfaa", sum := "2869a91585efb82fbd53a58d009d01977e8272c955b0aaf0007a802e2e9c5c54", func := "stowage/stowagelaw02.MatrixTurns", spec := "matrixTurns", unfollowed := true, recurses := true, apart := false }
def MatrixTurnsSaid : Prop := matrixTurnsRow.holds Try.pinned (OpenSpec.ofChange matrixTurnsSpec)

/-- ITS FALSE NEIGHBOUR: 'it returns false'. Refute it at one input. -/
def matrixTurnsWrong : ChangeSpec := { name := "matrixTurns", fn := fun _ => fun
  | [d] => { results := [.lit (.bool false)], args := [d] }
  | _ => none }
def MatrixTurnsWrongFalsely : Prop := matrixTurnsRow.holds Try.pinned (OpenSpec.ofChange matrixTurnsWrong)

/-- 'stowagelaw02.MatrixJoins': WHATEVER THE INPUT: true; the input reads as it did. -/
def matrixJoinsSpec : ChangeSpec := { name := "matrixJoins", fn := fun _ => fun
  | [d1, d2, d3] => { results := [.lit (.bool true)], args := [d1, d2, d3] }
  | _ => none }
def matrixJoinsRow : OpenClaim := { program := "ythmlimkmcofkfaa", sum := "2869a91585efb82fbd53a58d009d01977e8272c955b0aaf0007a802e2e9c5c54", func := "stowage/stowagelaw02.MatrixJoins", spec := "matrixJoins", unfollowed := true, recurses := true, apart := false }
def MatrixJoinsSaid : Prop := matrixJoinsRow.holds Try.pinned (OpenSpec.ofChange matrixJoinsSpec)

/-- ITS FALSE NEIGHBOUR: 'it returns false'. Refute it at one input. -/
def matrixJoinsWrong : ChangeSpec := { name := "matrixJoins", fn := fun _ => fun
  | [d1, d2, d3] => { results := [.lit (.bool false)], args := [d1, d2, d3] }
  | _ => none }
def MatrixJoinsWrongFalsely : Prop := matrixJoinsRow.holds Try.pinned (OpenSpec.ofChange matrixJoinsWrong)

/-- 'stowagelaw02.MatrixAny': WHATEVER THE INPUT: true; the input reads as it did. -/
def matrixAnySpec : ChangeSpec := { name := "matrixAny", fn := fun _ => fun
  | [d1, d2, d3] => { results := [.lit (.bool true)], args := [d1, d2, d3] }
  | _ => none }
def matrixAnyRow : OpenClaim := { program := "ythmlimkmcofkfaa", sum := "2869a91585efb82fbd53a58d009d01977e8272c955b0aaf0007a802e2e9c5c54", func := "stowage/stowagelaw02.MatrixAny", spec := "matrixAny", unfollowed := true, recurses := true, apart := false }
def MatrixAnySaid : Prop := matrixAnyRow.holds Try.pinned (OpenSpec.ofChange matrixAnySpec)

/-- ITS FALSE NEIGHBOUR: 'it returns false'. Refute it at one input. -/
def matrixAnyWrong : ChangeSpec := { name := "matrixAny", fn := fun _ => fun
  | [d1, d2, d3] => { results := [.lit (.bool false)], args := [d1, d2, d3] }
  | _ => none }
def MatrixAnyWrongFalsely : Prop := matrixAnyRow.holds Try.pinned (OpenSpec.ofChange matrixAnyWrong)

/-- 'stowagelaw03.StripeSplits': WHATEVER THE INPUT: true; the input reads as it did. -/
def stripeSplitsSpec : ChangeSpec := { name := "stripeSplits", fn := fun _ => fun
  | [d1, d2, d3, d4] => { results := [.lit (.bool true)], args := [d1, d2, d3, d4] }
  | _ => none }
def stripeSplitsRow : OpenClaim := { program := "ythmlimkmcofkfaa", sum := "2869a91585efb82fbd53a58d009d01977e8272c955b0aaf0007a802e2e9c5c54", func := "stowage/stowagelaw03.StripeSplits", spec := "stripeSplits", unfollowed := true, recurses := true, apart := false }
def StripeSplitsSaid : Prop := stripeSplitsRow.holds Try.pinned (OpenSpec.ofChange stripeSplitsSpec)

/-- ITS FALSE NEIGHBOUR: 'it returns false'. Refute it at one input. -/
def stripeSplitsWrong : ChangeSpec := { name := "stripeSplits", fn := fun _ => fun
  | [d1, d2, d3, d4] => { results := [.lit (.bool false)], args := [d1, d2, d3, d4] }
  | _ => none }
def StripeSplitsWrongFalsely : Prop := stripeSplitsRow.holds Try.pinned (OpenSpec.ofChange stripeSplitsWrong)

/-- 'stowagelaw03.StripeFew': WHATEVER THE INPUT: true; the input reads as it did. -/
def stripeFewSpec : ChangeSpec := { name := "stripeFew", fn := fun _ => fun
  | [d1, d2, d3, d4, d5] => { results := [.lit (.bool true)], args := [d1, d2, d3, d4, d5] }
  | _ => none }
def stripeFewRow : OpenClaim := { program := "ythmlimkmcofkfaa", sum := "2869a91585efb82fbd53a58d009d01977e8272c955b0aaf0007a802e2e9c5c54", func := "stowage/stowagelaw03.StripeFew", spec := "stripeFew", unfollowed := true, recurses := true, apart := false }
def StripeFewSaid : Prop := stripeFewRow.holds Try.pinned (OpenSpec.ofChange stripeFewSpec)

/-- ITS FALSE NEIGHBOUR: 'it returns false'. Refute it at one input. -/
def stripeFewWrong : ChangeSpec := { name := "stripeFew", fn := fun _ => fun
  | [d1, d2, d3, d4, d5] => { results := [.lit (.bool false)], args := [d1, d2, d3, d4, d5] }
  | _ => none }
def StripeFewWrongFalsely : Prop := stripeFewRow.holds Try.pinned (OpenSpec.ofChange stripeFewWrong)

/-- 'stowagelaw03.StripeTurned': WHATEVER THE INPUT: true; the input reads as it did. -/
def stripeTurnedSpec : ChangeSpec := { name := "stripeTurned", fn := fun _ => fun
  | [d1, d2, d3, d4, d5, d6] => { results := [.lit (.bool true)], args := [d1, d2, d3, d4, d5, d6] }
  | _ => none }
def stripeTurnedRow : OpenClaim := { program := "ythmlimkmcofkfaa", sum := "2869a91585efb82fbd53a58d009d01977e8272c955b0aaf0007a802e2e9c5c54", func := "stowage/stowagelaw03.StripeTurned", spec := "stripeTurned", unfollowed := true, recurses := true, apart := false }
def StripeTurnedSaid : Prop := stripeTurnedRow.holds Try.pinned (OpenSpec.ofChange stripeTurnedSpec)

/-- ITS FALSE NEIGHBOUR: 'it returns false'. Refute it at one input. -/
def stripeTurnedWrong : ChangeSpec := { name := "stripeTurned", fn := fun _ => fun
  | [d1, d2, d3, d4, d5, d6] => { results := [.lit (.bool false)], args := [d1, d2, d3, d4, d5, d6] }
  | _ => none }
def StripeTurnedWrongFalsely : Prop := stripeTurnedRow.holds Try.pinned (OpenSpec.ofChange stripeTurnedWrong)

/-- 'stowagelaw03.StripeMends': WHATEVER THE INPUT: true; the input reads as it did. -/
def stripeMendsSpec : ChangeSpec := { name := "stripeMends", fn := fun _ => fun
  | [d1, d2, d3, d4, d5] => { results := [.lit (.bool true)], args := [d1, d2, d3, d4, d5] }
  | _ => none }
def stripeMendsRow : OpenClaim := { program := "ythmlimkmcofkfaa", sum := "2869a91585efb82fbd53a58d009d01977e8272c955b0aaf0007a802e2e9c5c54", func := "stowage/stowagelaw03.StripeMends", spec := "stripeMends", unfollowed := true, recurses := true, apart := false }
def StripeMendsSaid : Prop := stripeMendsRow.holds Try.pinned (OpenSpec.ofChange stripeMendsSpec)

/-- ITS FALSE NEIGHBOUR: 'it returns false'. Refute it at one input. -/
def stripeMendsWrong : ChangeSpec := { name := "stripeMends", fn := fun _ => fun
  | [d1, d2, d3, d4, d5] => { results := [.lit (.bool false)], args := [d1, d2, d3, d4, d5] }
  | _ => none }
def StripeMendsWrongFalsely : Prop := stripeMendsRow.holds Try.pinned (OpenSpec.ofChange stripeMendsWrong)

/-- 'stowagelaw03.StripeAny': WHATEVER THE INPUT: true; the input reads as it did. -/
def stripeAnySpec : ChangeSpec := { name := "stripeAny", fn := fun _ => fun
  | [d1, d2, d3, d4, d5] => { results := [.lit (.bool true)], args := [d1, d2, d3, d4, d5] }
  | _ => none }
def stripeAnyRow : OpenClaim := { program := "ythmlimkmcofkfaa", sum := "2869a91585efb82fbd53a58d009d01977e8272c955b0aaf0007a802e2e9c5c54", func := "stowage/stowagelaw03.StripeAny", spec := "stripeAny", unfollowed := true, recurses := true, apart := false }
def StripeAnySaid : Prop := stripeAnyRow.holds Try.pinned (OpenSpec.ofChange stripeAnySpec)

/-- ITS FALSE NEIGHBOUR: 'it returns false'. Refute it at one input. -/
def stripeAnyWrong : ChangeSpec := { name := "stripeAny", fn := fun _ => fun
  | [d1, d2, d3, d4, d5] => { results := [.lit (.bool false)], args := [d1, d2, d3, d4, d5] }
  | _ => none }
def StripeAnyWrongFalsely : Prop := stripeAnyRow.holds Try.pinned (OpenSpec.ofChange stripeAnyWrong)

/- THE SECOND FORM. 'bulk': how many values and letters a reading holds, each counted each time it is reached (what is shared counts as often as it is met; a slice's spare places count too). A statement '..UptoSaid' is the law's where the arguments, and the package variables that the reading takes, are together of bulk at most 1048576: NARROWER than '..Said'. Prove '..Said' where nothing that the law and all that it calls make is longer than what came in: it says more and counts as full. Else prove '..UptoSaid'. A law counts once. -/
mutual
def uptoBulk {H : Type} : DataW H → Nat
  | .lit (.string bytes) => bytes.length + 1
  | .lit _ => 1
  | .nil => 1
  | .ptr d => uptoBulk d + 1
  | .slice elems spare => uptoBulkAll elems + uptoBulkAll spare + 1
  | .agg parts => uptoBulkAll parts + 1
  | .iface _ d => uptoBulk d + 1
  | .map entries => uptoBulkEntries entries + 1
  | .held _ => 1
def uptoBulkAll {H : Type} : List (DataW H) → Nat
  | [] => 0
  | d :: r => uptoBulk d + uptoBulkAll r
def uptoBulkEntries {H : Type} : List (Lit × DataW H) → Nat
  | [] => 0
  | x :: r => uptoBulkEntry x + uptoBulkEntries r
def uptoBulkEntry {H : Type} : Lit × DataW H → Nat
  | (.string bytes, d) => bytes.length + uptoBulk d + 1
  | (_, d) => uptoBulk d + 1
 end
def uptoSmall : (H : Type) → List (DataW H) → Bool := fun _ ds => decide (uptoBulkAll ds ≤ 1048576)
def OpenSpec.upto (s : _root_.Go.ChangeSpec) : _root_.Go.OpenSpec := { _root_.Go.OpenSpec.ofChange s with cond := some uptoSmall }

/-- 'stowagelaw02.MatrixPicks', WHERE WHAT IT READS IS OF BULK AT MOST 1048576: true; the input reads as it did. -/
def matrixPicksUptoRow : OpenClaim := { program := "ythmlimkmcofkfaa", sum := "2869a91585efb82fbd53a58d009d01977e8272c955b0aaf0007a802e2e9c5c54", func := "stowage/stowagelaw02.MatrixPicks", spec := "matrixPicks", unfollowed := true, recurses := true, apart := false, narrowed := true }
def MatrixPicksUptoSaid : Prop := matrixPicksUptoRow.holds Try.pinned (OpenSpec.upto matrixPicksSpec)

/-- 'stowagelaw02.MatrixTells', WHERE WHAT IT READS IS OF BULK AT MOST 1048576: true; the input reads as it did. -/
def matrixTellsUptoRow : OpenClaim := { program := "ythmlimkmcofkfaa", sum := "2869a91585efb82fbd53a58d009d01977e8272c955b0aaf0007a802e2e9c5c54", func := "stowage/stowagelaw02.MatrixTells", spec := "matrixTells", unfollowed := true, recurses := true, apart := false, narrowed := true }
def MatrixTellsUptoSaid : Prop := matrixTellsUptoRow.holds Try.pinned (OpenSpec.upto matrixTellsSpec)

/-- 'stowagelaw02.MatrixTurns', WHERE WHAT IT READS IS OF BULK AT MOST 1048576: true; the input reads as it did. -/
def matrixTurnsUptoRow : OpenClaim := { program := "ythmlimkmcofkfaa", sum := "2869a91585efb82fbd53a58d009d01977e8272c955b0aaf0007a802e2e9c5c54", func := "stowage/stowagelaw02.MatrixTurns", spec := "matrixTurns", unfollowed := true, recurses := true, apart := false, narrowed := true }
def MatrixTurnsUptoSaid : Prop := matrixTurnsUptoRow.holds Try.pinned (OpenSpec.upto matrixTurnsSpec)

/-- 'stowagelaw02.MatrixJoins', WHERE WHAT IT READS IS OF BULK AT MOST 1048576: true; the input reads as it did. -/
def matrixJoinsUptoRow : OpenClaim := { program := "ythmlimkmcofkfaa", sum := "2869a91585efb82fbd53a58d009d01977e8272c955b0aaf0007a802e2e9c5c54", func := "stowage/stowagelaw02.MatrixJoins", spec := "matrixJoins", unfollowed := true, recurses := true, apart := false, narrowed := true }
def MatrixJoinsUptoSaid : Prop := matrixJoinsUptoRow.holds Try.pinned (OpenSpec.upto matrixJoinsSpec)

/-- 'stowagelaw02.MatrixAny', WHERE WHAT IT READS IS OF BULK AT MOST 1048576: true; the input reads as it did. -/
def matrixAnyUptoRow : OpenClaim := { program := "ythmlimkmcofkfaa", sum := "2869a91585efb82fbd53a58d009d01977e8272c955b0aaf0007a802e2e9c5c54", func := "stowage/stowagelaw02.MatrixAny", spec := "matrixAny", unfollowed := true, recurses := true, apart := false, narrowed := true }
def MatrixAnyUptoSaid : Prop := matrixAnyUptoRow.holds Try.pinned (OpenSpec.upto matrixAnySpec)

/-- 'stowagelaw03.StripeSplits', WHERE WHAT IT READS IS OF BULK AT MOST 1048576: true; the input reads as it did. -/
def stripeSplitsUptoRow : OpenClaim := { program := "ythmlimkmcofkfaa", sum := "2869a91585efb82fbd53a58d009d01977e8272c955b0aaf0007a802e2e9c5c54", func := "stowage/stowagelaw03.StripeSplits", spec := "stripeSplits", unfollowed := true, recurses := true, apart := false, narrowed := true }
def StripeSplitsUptoSaid : Prop := stripeSplitsUptoRow.holds Try.pinned (OpenSpec.upto stripeSplitsSpec)

/-- 'stowagelaw03.StripeFew', WHERE WHAT IT READS IS OF BULK AT MOST 1048576: true; the input reads as it did. -/
def stripeFewUptoRow : OpenClaim := { program := "ythmlimkmcofkfaa", sum := "2869a91585efb82fbd53a58d009d01977e8272c955b0aaf0007a802e2e9c5c54", func := "stowage/stowagelaw03.StripeFew", spec := "stripeFew", unfollowed := true, recurses := true, apart := false, narrowed := true }
def StripeFewUptoSaid : Prop := stripeFewUptoRow.holds Try.pinned (OpenSpec.upto stripeFewSpec)

/-- 'stowagelaw03.StripeTurned', WHERE WHAT IT READS IS OF BULK AT MOST 1048576: true; the input reads as it did. -/
def stripeTurnedUptoRow : OpenClaim := { program := "ythmlimkmcofkfaa", sum := "2869a91585efb82fbd53a58d009d01977e8272c955b0aaf0007a802e2e9c5c54", func := "stowage/stowagelaw03.StripeTurned", spec := "stripeTurned", unfollowed := true, recurses := true, apart := false, narrowed := true }
def StripeTurnedUptoSaid : Prop := stripeTurnedUptoRow.holds Try.pinned (OpenSpec.upto stripeTurnedSpec)

/-- 'stowagelaw03.StripeMends', WHERE WHAT IT READS IS OF BULK AT MOST 1048576: true; the input reads as it did. -/
def stripeMendsUptoRow : OpenClaim := { program := "ythmlimkmcofkfaa", sum := "2869a91585efb82fbd53a58d009d01977e8272c955b0aaf0007a802e2e9c5c54", func := "stowage/stowagelaw03.StripeMends", spec := "stripeMends", unfollowed := true, recurses := true, apart := false, narrowed := true }
def StripeMendsUptoSaid : Prop := stripeMendsUptoRow.holds Try.pinned (OpenSpec.upto stripeMendsSpec)

/-- 'stowagelaw03.StripeAny', WHERE WHAT IT READS IS OF BULK AT MOST 1048576: true; the input reads as it did. -/
def stripeAnyUptoRow : OpenClaim := { program := "ythmlimkmcofkfaa", sum := "2869a91585efb82fbd53a58d009d01977e8272c955b0aaf0007a802e2e9c5c54", func := "stowage/stowagelaw03.StripeAny", spec := "stripeAny", unfollowed := true, recurses := true, apart := false, narrowed := true }
def StripeAnyUptoSaid : Prop := stripeAnyUptoRow.holds Try.pinned (OpenSpec.upto stripeAnySpec)

end Rows
end Go.Proofs.Ythmlimkmcofkfaa

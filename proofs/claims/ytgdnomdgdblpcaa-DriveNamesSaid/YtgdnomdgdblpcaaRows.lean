/-
  No cell of these rows narrows 'for every input' (looked for: loops, veiled, ifaces, maps, wideKeys, modest, calm, conditions, laid).
  DERIVED. THE GIVEN ROWS OF THIS SEAT. 6 by the template 'for every input the law returns true; each argument reads behind the call as it read before'; 0 by the template 'total and deterministic' (their statements: YtgdnomdgdblpcaaTotals.lean).
  GIVEN WITH THE SEED: the statements are not yours to turn. If you find one false, say at which input.
  Laid BY PROGRAM, IN A SANDBOX (cutbox-rows.mjs): the forced cells as the released guide's own fill.sh prints them over the translation 9912437156b286fc… (all of the seat's roots in one cut). By AI agents, Wed Nov 11 2026. No macro, syntax, notation, axiom, sorry.
-/
import Derived.Test.YtgdnomdgdblpcaaChecked
import GoSem.Claim
import GoSem.ClaimJoined
import GoSem.ClaimMapViews
import Derived.JoinedTies
import Derived.KernelRfl
namespace Go.Proofs.Ytgdnomdgdblpcaa
/- THE CELL 'sum', in the pinned program and in every row, IS THE sha256 OF THE DUMP (.gsa) THAT YtgdnomdgdblpcaaProg.lean LOADS. Nothing in Lean hashes anything: it is a label: what it is worth is what the hold of that sum in a sandbox is worth. -/
noncomputable def Try.pinned : Pinned := { name := "ytgdnomdgdblpcaa", sum := "9912437156b286fc57be73ab848fee7444bb895040bf0b01372ba91d59575234", checked := Try.checked }
namespace Rows
def none {H : Type} : Left H := { results := [], args := [] }

/-- 'stowagelaw05.BlockReads': WHATEVER THE INPUT: true; the input reads as it did. -/
def blockReadsSpec : ChangeSpec := { name := "blockReads", fn := fun _ => fun
  | [d1, d2, d3, d4] => { results := [.lit (.bool true)], args := [d1, d2, d3, d4] }
  | _ => none }
def blockReadsRow : OpenClaim := { program := "ytgdnomdgdblpcaa", sum := "9912437156b286fc57be73ab848fee7444bb895040bf0b01372ba91d59575234", func := "stowage/stowagelaw05.BlockReads", spec := "blockReads", unfollowed := true, recurses := true, apart := false }
def BlockReadsSaid : Prop := blockReadsRow.holds Try.pinned (OpenSpec.ofChange blockReadsSpec)

/-- ITS FALSE NEIGHBOUR: 'it returns false'. Refute it at one input. -/
def blockReadsWrong : ChangeSpec := { name := "blockReads", fn := fun _ => fun
  | [d1, d2, d3, d4] => { results := [.lit (.bool false)], args := [d1, d2, d3, d4] }
  | _ => none }
def BlockReadsWrongFalsely : Prop := blockReadsRow.holds Try.pinned (OpenSpec.ofChange blockReadsWrong)

/-- 'stowagelaw14.FormatPlaces': WHATEVER THE INPUT: true; the input reads as it did. -/
def formatPlacesSpec : ChangeSpec := { name := "formatPlaces", fn := fun _ => fun
  | [d1, d2, d3, d4, d5, d6, d7, d8] => { results := [.lit (.bool true)], args := [d1, d2, d3, d4, d5, d6, d7, d8] }
  | _ => none }
def formatPlacesRow : OpenClaim := { program := "ytgdnomdgdblpcaa", sum := "9912437156b286fc57be73ab848fee7444bb895040bf0b01372ba91d59575234", func := "stowage/stowagelaw14.FormatPlaces", spec := "formatPlaces", unfollowed := true, recurses := true, apart := false }
def FormatPlacesSaid : Prop := formatPlacesRow.holds Try.pinned (OpenSpec.ofChange formatPlacesSpec)

/-- ITS FALSE NEIGHBOUR: 'it returns false'. Refute it at one input. -/
def formatPlacesWrong : ChangeSpec := { name := "formatPlaces", fn := fun _ => fun
  | [d1, d2, d3, d4, d5, d6, d7, d8] => { results := [.lit (.bool false)], args := [d1, d2, d3, d4, d5, d6, d7, d8] }
  | _ => none }
def FormatPlacesWrongFalsely : Prop := formatPlacesRow.holds Try.pinned (OpenSpec.ofChange formatPlacesWrong)

/-- 'stowagelaw08.JournalEdits': WHATEVER THE INPUT: true; the input reads as it did. -/
def journalEditsSpec : ChangeSpec := { name := "journalEdits", fn := fun _ => fun
  | [d1, d2, d3] => { results := [.lit (.bool true)], args := [d1, d2, d3] }
  | _ => none }
def journalEditsRow : OpenClaim := { program := "ytgdnomdgdblpcaa", sum := "9912437156b286fc57be73ab848fee7444bb895040bf0b01372ba91d59575234", func := "stowage/stowagelaw08.JournalEdits", spec := "journalEdits", inPlace := ["slices.overlaps[stowage/api.Record]"], unfollowed := true, recurses := true, apart := false }
def JournalEditsSaid : Prop := journalEditsRow.holds Try.pinned (OpenSpec.ofChange journalEditsSpec)

/-- ITS FALSE NEIGHBOUR: 'it returns false'. Refute it at one input. -/
def journalEditsWrong : ChangeSpec := { name := "journalEdits", fn := fun _ => fun
  | [d1, d2, d3] => { results := [.lit (.bool false)], args := [d1, d2, d3] }
  | _ => none }
def JournalEditsWrongFalsely : Prop := journalEditsRow.holds Try.pinned (OpenSpec.ofChange journalEditsWrong)

/-- 'stowagelaw06.DriveNames': WHATEVER THE INPUT: true; the input reads as it did. -/
def driveNamesSpec : ChangeSpec := { name := "driveNames", fn := fun _ => fun
  | [d] => { results := [.lit (.bool true)], args := [d] }
  | _ => none }
def driveNamesRow : OpenClaim := { program := "ytgdnomdgdblpcaa", sum := "9912437156b286fc57be73ab848fee7444bb895040bf0b01372ba91d59575234", func := "stowage/stowagelaw06.DriveNames", spec := "driveNames", unfollowed := true, recurses := true, apart := false }
def DriveNamesSaid : Prop := driveNamesRow.holds Try.pinned (OpenSpec.ofChange driveNamesSpec)

/-- ITS FALSE NEIGHBOUR: 'it returns false'. Refute it at one input. -/
def driveNamesWrong : ChangeSpec := { name := "driveNames", fn := fun _ => fun
  | [d] => { results := [.lit (.bool false)], args := [d] }
  | _ => none }
def DriveNamesWrongFalsely : Prop := driveNamesRow.holds Try.pinned (OpenSpec.ofChange driveNamesWrong)

/-- 'stowagelaw09.TallyTrue': WHATEVER THE INPUT: true; the input reads as it did. -/
def tallyTrueSpec : ChangeSpec := { name := "tallyTrue", fn := fun _ => fun
  | [d1, d2] => { results := [.lit (.bool true)], args := [d1, d2] }
  | _ => none }
def tallyTrueRow : OpenClaim := { program := "ytgdnomdgdblpcaa", sum := "9912437156b286fc57be73ab848fee7444bb895040bf0b01372ba91d59575234", func := "stowage/stowagelaw09.TallyTrue", spec := "tallyTrue", inPlace := ["internal/reflectlite.TypeOf"], unfollowed := true, recurses := true, apart := false }
def TallyTrueSaid : Prop := tallyTrueRow.holds Try.pinned (OpenSpec.ofChange tallyTrueSpec)

/-- ITS FALSE NEIGHBOUR: 'it returns false'. Refute it at one input. -/
def tallyTrueWrong : ChangeSpec := { name := "tallyTrue", fn := fun _ => fun
  | [d1, d2] => { results := [.lit (.bool false)], args := [d1, d2] }
  | _ => none }
def TallyTrueWrongFalsely : Prop := tallyTrueRow.holds Try.pinned (OpenSpec.ofChange tallyTrueWrong)

/-- 'stowagelaw09.TallyKnown': WHATEVER THE INPUT: true; the input reads as it did. -/
def tallyKnownSpec : ChangeSpec := { name := "tallyKnown", fn := fun _ => fun
  | [] => { results := [.lit (.bool true)], args := [] }
  | _ => none }
def tallyKnownRow : OpenClaim := { program := "ytgdnomdgdblpcaa", sum := "9912437156b286fc57be73ab848fee7444bb895040bf0b01372ba91d59575234", func := "stowage/stowagelaw09.TallyKnown", spec := "tallyKnown", inPlace := ["internal/reflectlite.TypeOf"], unfollowed := true, recurses := true, apart := false }
def TallyKnownSaid : Prop := tallyKnownRow.holds Try.pinned (OpenSpec.ofChange tallyKnownSpec)

/-- ITS FALSE NEIGHBOUR: 'it returns false'. Refute it at one input. -/
def tallyKnownWrong : ChangeSpec := { name := "tallyKnown", fn := fun _ => fun
  | [] => { results := [.lit (.bool false)], args := [] }
  | _ => none }
def TallyKnownWrongFalsely : Prop := tallyKnownRow.holds Try.pinned (OpenSpec.ofChange tallyKnownWrong)

/- THE SECOND FORM. 'bulk': how many values and letters a reading holds, each counted each time it is reached (what is shared counts as often as it is met; a slice's spare places count too). A statement '..UptoSaid' is the law's where the arguments, and the package variables that the reading takes, are together of bulk at most 1048576: NARROWER than '..Said'. Prove '..Said' where nothing that the law and all that it calls make is longer than what came in: it says more and counts as full. Else prove '..UptoSaid'. A law counts once. -/
mutual
def uptoBulk {H : Type} : DataW H → Nat
  | .lit (.string bytes) => bytes.length + 1
  | .lit _ => 1
  | .nil => 1
  | .ptr d => uptoBulk d + 1
  | .slice elems spare => uptoBulkAll elems + uptoBulkAll spare + 1
  | .agg parts => uptoBulkAll parts + 1
  | .iface _ d => uptoBulk d + 1
  | .map entries => uptoBulkEntries entries + 1
  | .held _ => 1
def uptoBulkAll {H : Type} : List (DataW H) → Nat
  | [] => 0
  | d :: r => uptoBulk d + uptoBulkAll r
def uptoBulkEntries {H : Type} : List (Lit × DataW H) → Nat
  | [] => 0
  | x :: r => uptoBulkEntry x + uptoBulkEntries r
def uptoBulkEntry {H : Type} : Lit × DataW H → Nat
  | (.string bytes, d) => bytes.length + uptoBulk d + 1
  | (_, d) => uptoBulk d + 1
 end
def uptoSmall : (H : Type) → List (DataW H) → Bool := fun _ ds => decide (uptoBulkAll ds ≤ 1048576)
def OpenSpec.upto (s : _root_.Go.ChangeSpec) : _root_.Go.OpenSpec := { _root_.Go.OpenSpec.ofChange s with cond := some uptoSmall }

/-- 'stowagelaw05.BlockReads', WHERE WHAT IT READS IS OF BULK AT MOST 1048576: true; the input reads as it did. -/
def blockReadsUptoRow : OpenClaim := { program := "ytgdnomdgdblpcaa", sum := "9912437156b286fc57be73ab848fee7444bb895040bf0b01372ba91d59575234", func := "stowage/stowagelaw05.BlockReads", spec := "blockReads", unfollowed := true, recurses := true, apart := false, narrowed := true }
def BlockReadsUptoSaid : Prop := blockReadsUptoRow.holds Try.pinned (OpenSpec.upto blockReadsSpec)

/-- 'stowagelaw14.FormatPlaces', WHERE WHAT IT READS IS OF BULK AT MOST 1048576: true; the input reads as it did. -/
def formatPlacesUptoRow : OpenClaim := { program := "ytgdnomdgdblpcaa", sum := "9912437156b286fc57be73ab848fee7444bb895040bf0b01372ba91d59575234", func := "stowage/stowagelaw14.FormatPlaces", spec := "formatPlaces", unfollowed := true, recurses := true, apart := false, narrowed := true }
def FormatPlacesUptoSaid : Prop := formatPlacesUptoRow.holds Try.pinned (OpenSpec.upto formatPlacesSpec)

/-- 'stowagelaw08.JournalEdits', WHERE WHAT IT READS IS OF BULK AT MOST 1048576: true; the input reads as it did. -/
def journalEditsUptoRow : OpenClaim := { program := "ytgdnomdgdblpcaa", sum := "9912437156b286fc57be73ab848fee7444bb895040bf0b01372ba91d59575234", func := "stowage/stowagelaw08.JournalEdits", spec := "journalEdits", inPlace := ["slices.overlaps[stowage/api.Record]"], unfollowed := true, recurses := true, apart := false, narrowed := true }
def JournalEditsUptoSaid : Prop := journalEditsUptoRow.holds Try.pinned (OpenSpec.upto journalEditsSpec)

/-- 'stowagelaw06.DriveNames', WHERE WHAT IT READS IS OF BULK AT MOST 1048576: true; the input reads as it did. -/
def driveNamesUptoRow : OpenClaim := { program := "ytgdnomdgdblpcaa", sum := "9912437156b286fc57be73ab848fee7444bb895040bf0b01372ba91d59575234", func := "stowage/stowagelaw06.DriveNames", spec := "driveNames", unfollowed := true, recurses := true, apart := false, narrowed := true }
def DriveNamesUptoSaid : Prop := driveNamesUptoRow.holds Try.pinned (OpenSpec.upto driveNamesSpec)

/-- 'stowagelaw09.TallyTrue', WHERE WHAT IT READS IS OF BULK AT MOST 1048576: true; the input reads as it did. -/
def tallyTrueUptoRow : OpenClaim := { program := "ytgdnomdgdblpcaa", sum := "9912437156b286fc57be73ab848fee7444bb895040bf0b01372ba91d59575234", func := "stowage/stowagelaw09.TallyTrue", spec := "tallyTrue", inPlace := ["internal/reflectlite.TypeOf"], unfollowed := true, recurses := true, apart := false, narrowed := true }
def TallyTrueUptoSaid : Prop := tallyTrueUptoRow.holds Try.pinned (OpenSpec.upto tallyTrueSpec)

/-- 'stowagelaw09.TallyKnown', WHERE WHAT IT READS IS OF BULK AT MOST 1048576: true; the input reads as it did. -/
def tallyKnownUptoRow : OpenClaim := { program := "ytgdnomdgdblpcaa", sum := "9912437156b286fc57be73ab848fee7444bb895040bf0b01372ba91d59575234", func := "stowage/stowagelaw09.TallyKnown", spec := "tallyKnown", inPlace := ["internal/reflectlite.TypeOf"], unfollowed := true, recurses := true, apart := false, narrowed := true }
def TallyKnownUptoSaid : Prop := tallyKnownUptoRow.holds Try.pinned (OpenSpec.upto tallyKnownSpec)

end Rows
end Go.Proofs.Ytgdnomdgdblpcaa

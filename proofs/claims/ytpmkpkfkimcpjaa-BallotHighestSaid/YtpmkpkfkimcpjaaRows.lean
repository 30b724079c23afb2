/-
  No cell of these rows narrows 'for every input' (looked for: loops, veiled, ifaces, maps, wideKeys, modest, calm, conditions, laid).
  DERIVED. THE GIVEN ROWS OF THIS SEAT. 7 by the template 'for every input the law returns true; each argument reads behind the call as it read before'; 0 by the template 'total and deterministic' (their statements: YtpmkpkfkimcpjaaTotals.lean).
  GIVEN WITH THE SEED: the statements are not yours to turn. If you find one false, say at which input.
  Laid BY PROGRAM, IN A SANDBOX (cutbox-rows.mjs): the forced cells as the released guide's own fill.sh prints them over the translation 5f1edb5383f91f9b… (all of the seat's roots in one cut). By AI agents, Wed Nov 11 2026. No macro, syntax, notation, axiom, sorry.
-/
import Derived.Test.YtpmkpkfkimcpjaaChecked
import GoSem.Claim
import GoSem.ClaimJoined
import GoSem.ClaimMapViews
import Derived.JoinedTies
import Derived.KernelRfl
namespace Go.Proofs.Ytpmkpkfkimcpjaa
/- THE CELL 'sum', in the pinned program and in every row, IS THE sha256 OF THE DUMP (.gsa) THAT YtpmkpkfkimcpjaaProg.lean LOADS. Nothing in Lean hashes anything: it is a label: what it is worth is what the hold of that sum in a sandbox is worth. -/
noncomputable def Try.pinned : Pinned := { name := "ytpmkpkfkimcpjaa", sum := "5f1edb5383f91f9b72ab18d95c44f9fcf29d65abff2ca08cf9b75d54a29c1a1a", checked := Try.checked }
namespace Rows
def none {H : Type} : Left H := { results := [], args := [] }

/-- 'scrivenerlaw06.BallotNext': WHATEVER THE INPUT: true; the input reads as it did. -/
def ballotNextSpec : ChangeSpec := { name := "ballotNext", fn := fun _ => fun
  | [d1, d2, d3, d4, d5] => { results := [.lit (.bool true)], args := [d1, d2, d3, d4, d5] }
  | _ => none }
def ballotNextRow : OpenClaim := { program := "ytpmkpkfkimcpjaa", sum := "5f1edb5383f91f9b72ab18d95c44f9fcf29d65abff2ca08cf9b75d54a29c1a1a", func := "scrivener/scrivenerlaw06.BallotNext", spec := "ballotNext", unfollowed := true, recurses := true, apart := false }
def BallotNextSaid : Prop := ballotNextRow.holds Try.pinned (OpenSpec.ofChange ballotNextSpec)

/-- ITS FALSE NEIGHBOUR: 'it returns false'. Refute it at one input. -/
def ballotNextWrong : ChangeSpec := { name := "ballotNext", fn := fun _ => fun
  | [d1, d2, d3, d4, d5] => { results := [.lit (.bool false)], args := [d1, d2, d3, d4, d5] }
  | _ => none }
def BallotNextWrongFalsely : Prop := ballotNextRow.holds Try.pinned (OpenSpec.ofChange ballotNextWrong)

/-- 'scrivenerlaw06.BallotMeets': WHATEVER THE INPUT: true; the input reads as it did. -/
def ballotMeetsSpec : ChangeSpec := { name := "ballotMeets", fn := fun _ => fun
  | [d1, d2, d3, d4] => { results := [.lit (.bool true)], args := [d1, d2, d3, d4] }
  | _ => none }
def ballotMeetsRow : OpenClaim := { program := "ytpmkpkfkimcpjaa", sum := "5f1edb5383f91f9b72ab18d95c44f9fcf29d65abff2ca08cf9b75d54a29c1a1a", func := "scrivener/scrivenerlaw06.BallotMeets", spec := "ballotMeets", unfollowed := true, recurses := true, apart := false }
def BallotMeetsSaid : Prop := ballotMeetsRow.holds Try.pinned (OpenSpec.ofChange ballotMeetsSpec)

/-- ITS FALSE NEIGHBOUR: 'it returns false'. Refute it at one input. -/
def ballotMeetsWrong : ChangeSpec := { name := "ballotMeets", fn := fun _ => fun
  | [d1, d2, d3, d4] => { results := [.lit (.bool false)], args := [d1, d2, d3, d4] }
  | _ => none }
def BallotMeetsWrongFalsely : Prop := ballotMeetsRow.holds Try.pinned (OpenSpec.ofChange ballotMeetsWrong)

/-- 'scrivenerlaw06.BallotTotal': WHATEVER THE INPUT: true; the input reads as it did. -/
def ballotTotalSpec : ChangeSpec := { name := "ballotTotal", fn := fun _ => fun
  | [d1, d2, d3, d4, d5] => { results := [.lit (.bool true)], args := [d1, d2, d3, d4, d5] }
  | _ => none }
def ballotTotalRow : OpenClaim := { program := "ytpmkpkfkimcpjaa", sum := "5f1edb5383f91f9b72ab18d95c44f9fcf29d65abff2ca08cf9b75d54a29c1a1a", func := "scrivener/scrivenerlaw06.BallotTotal", spec := "ballotTotal", unfollowed := true, recurses := true, apart := false }
def BallotTotalSaid : Prop := ballotTotalRow.holds Try.pinned (OpenSpec.ofChange ballotTotalSpec)

/-- ITS FALSE NEIGHBOUR: 'it returns false'. Refute it at one input. -/
def ballotTotalWrong : ChangeSpec := { name := "ballotTotal", fn := fun _ => fun
  | [d1, d2, d3, d4, d5] => { results := [.lit (.bool false)], args := [d1, d2, d3, d4, d5] }
  | _ => none }
def BallotTotalWrongFalsely : Prop := ballotTotalRow.holds Try.pinned (OpenSpec.ofChange ballotTotalWrong)

/-- 'scrivenerlaw06.BallotRises': WHATEVER THE INPUT: true; the input reads as it did. -/
def ballotRisesSpec : ChangeSpec := { name := "ballotRises", fn := fun _ => fun
  | [d1, d2, d3] => { results := [.lit (.bool true)], args := [d1, d2, d3] }
  | _ => none }
def ballotRisesRow : OpenClaim := { program := "ytpmkpkfkimcpjaa", sum := "5f1edb5383f91f9b72ab18d95c44f9fcf29d65abff2ca08cf9b75d54a29c1a1a", func := "scrivener/scrivenerlaw06.BallotRises", spec := "ballotRises", unfollowed := true, recurses := true, apart := false }
def BallotRisesSaid : Prop := ballotRisesRow.holds Try.pinned (OpenSpec.ofChange ballotRisesSpec)

/-- ITS FALSE NEIGHBOUR: 'it returns false'. Refute it at one input. -/
def ballotRisesWrong : ChangeSpec := { name := "ballotRises", fn := fun _ => fun
  | [d1, d2, d3] => { results := [.lit (.bool false)], args := [d1, d2, d3] }
  | _ => none }
def BallotRisesWrongFalsely : Prop := ballotRisesRow.holds Try.pinned (OpenSpec.ofChange ballotRisesWrong)

/-- 'scrivenerlaw06.BallotOrder': WHATEVER THE INPUT: true; the input reads as it did. -/
def ballotOrderSpec : ChangeSpec := { name := "ballotOrder", fn := fun _ => fun
  | [d1, d2, d3] => { results := [.lit (.bool true)], args := [d1, d2, d3] }
  | _ => none }
def ballotOrderRow : OpenClaim := { program := "ytpmkpkfkimcpjaa", sum := "5f1edb5383f91f9b72ab18d95c44f9fcf29d65abff2ca08cf9b75d54a29c1a1a", func := "scrivener/scrivenerlaw06.BallotOrder", spec := "ballotOrder", unfollowed := true, recurses := true, apart := false }
def BallotOrderSaid : Prop := ballotOrderRow.holds Try.pinned (OpenSpec.ofChange ballotOrderSpec)

/-- ITS FALSE NEIGHBOUR: 'it returns false'. Refute it at one input. -/
def ballotOrderWrong : ChangeSpec := { name := "ballotOrder", fn := fun _ => fun
  | [d1, d2, d3] => { results := [.lit (.bool false)], args := [d1, d2, d3] }
  | _ => none }
def BallotOrderWrongFalsely : Prop := ballotOrderRow.holds Try.pinned (OpenSpec.ofChange ballotOrderWrong)

/-- 'scrivenerlaw06.BallotBack': WHATEVER THE INPUT: true; the input reads as it did. -/
def ballotBackSpec : ChangeSpec := { name := "ballotBack", fn := fun _ => fun
  | [d1, d2] => { results := [.lit (.bool true)], args := [d1, d2] }
  | _ => none }
def ballotBackRow : OpenClaim := { program := "ytpmkpkfkimcpjaa", sum := "5f1edb5383f91f9b72ab18d95c44f9fcf29d65abff2ca08cf9b75d54a29c1a1a", func := "scrivener/scrivenerlaw06.BallotBack", spec := "ballotBack", unfollowed := true, recurses := true, apart := false }
def BallotBackSaid : Prop := ballotBackRow.holds Try.pinned (OpenSpec.ofChange ballotBackSpec)

/-- ITS FALSE NEIGHBOUR: 'it returns false'. Refute it at one input. -/
def ballotBackWrong : ChangeSpec := { name := "ballotBack", fn := fun _ => fun
  | [d1, d2] => { results := [.lit (.bool false)], args := [d1, d2] }
  | _ => none }
def BallotBackWrongFalsely : Prop := ballotBackRow.holds Try.pinned (OpenSpec.ofChange ballotBackWrong)

/-- 'scrivenerlaw06.BallotHighest': WHATEVER THE INPUT: true; the input reads as it did. -/
def ballotHighestSpec : ChangeSpec := { name := "ballotHighest", fn := fun _ => fun
  | [d] => { results := [.lit (.bool true)], args := [d] }
  | _ => none }
def ballotHighestRow : OpenClaim := { program := "ytpmkpkfkimcpjaa", sum := "5f1edb5383f91f9b72ab18d95c44f9fcf29d65abff2ca08cf9b75d54a29c1a1a", func := "scrivener/scrivenerlaw06.BallotHighest", spec := "ballotHighest", unfollowed := true, recurses := true, apart := false }
def BallotHighestSaid : Prop := ballotHighestRow.holds Try.pinned (OpenSpec.ofChange ballotHighestSpec)

/-- ITS FALSE NEIGHBOUR: 'it returns false'. Refute it at one input. -/
def ballotHighestWrong : ChangeSpec := { name := "ballotHighest", fn := fun _ => fun
  | [d] => { results := [.lit (.bool false)], args := [d] }
  | _ => none }
def BallotHighestWrongFalsely : Prop := ballotHighestRow.holds Try.pinned (OpenSpec.ofChange ballotHighestWrong)

/- THE SECOND FORM. 'bulk': how many values and letters a reading holds, each counted each time it is reached (what is shared counts as often as it is met; a slice's spare places count too). A statement '..UptoSaid' is the law's where the arguments, and the package variables that the reading takes, are together of bulk at most 1048576: NARROWER than '..Said'. Prove '..Said' where nothing that the law and all that it calls make is longer than what came in: it says more and counts as full. Else prove '..UptoSaid'. A law counts once. -/
mutual
def uptoBulk {H : Type} : DataW H → Nat
  | .lit (.string bytes) => bytes.length + 1
  | .lit _ => 1
  | .nil => 1
  | .ptr d => uptoBulk d + 1
  | .slice elems spare => uptoBulkAll elems + uptoBulkAll spare + 1
  | .agg parts => uptoBulkAll parts + 1
  | .iface _ d => uptoBulk d + 1
  | .map entries => uptoBulkEntries entries + 1
  | .held _ => 1
def uptoBulkAll {H : Type} : List (DataW H) → Nat
  | [] => 0
  | d :: r => uptoBulk d + uptoBulkAll r
def uptoBulkEntries {H : Type} : List (Lit × DataW H) → Nat
  | [] => 0
  | x :: r => uptoBulkEntry x + uptoBulkEntries r
def uptoBulkEntry {H : Type} : Lit × DataW H → Nat
  | (.string bytes, d) => bytes.length + uptoBulk d + 1
  | (_, d) => uptoBulk d + 1
 end
def uptoSmall : (H : Type) → List (DataW H) → Bool := fun _ ds => decide (uptoBulkAll ds ≤ 1048576)
def OpenSpec.upto (s : _root_.Go.ChangeSpec) : _root_.Go.OpenSpec := { _root_.Go.OpenSpec.ofChange s with cond := some uptoSmall }

/-- 'scrivenerlaw06.BallotNext', WHERE WHAT IT READS IS OF BULK AT MOST 1048576: true; the input reads as it did. -/
def ballotNextUptoRow : OpenClaim := { program := "ytpmkpkfkimcpjaa", sum := "5f1edb5383f91f9b72ab18d95c44f9fcf29d65abff2ca08cf9b75d54a29c1a1a", func := "scrivener/scrivenerlaw06.BallotNext", spec := "ballotNext", unfollowed := true, recurses := true, apart := false, narrowed := true }
def BallotNextUptoSaid : Prop := ballotNextUptoRow.holds Try.pinned (OpenSpec.upto ballotNextSpec)

/-- 'scrivenerlaw06.BallotMeets', WHERE WHAT IT READS IS OF BULK AT MOST 1048576: true; the input reads as it did. -/
def ballotMeetsUptoRow : OpenClaim := { program := "ytpmkpkfkimcpjaa", sum := "5f1edb5383f91f9b72ab18d95c44f9fcf29d65abff2ca08cf9b75d54a29c1a1a", func := "scrivener/scrivenerlaw06.BallotMeets", spec := "ballotMeets", unfollowed := true, recurses := true, apart := false, narrowed := true }
def BallotMeetsUptoSaid : Prop := ballotMeetsUptoRow.holds Try.pinned (OpenSpec.upto ballotMeetsSpec)

/-- 'scrivenerlaw06.BallotTotal', WHERE WHAT IT READS IS OF BULK AT MOST 1048576: true; the input reads as it did. -/
def ballotTotalUptoRow : OpenClaim := { program := "ytpmkpkfkimcpjaa", sum := "5f1edb5383f91f9b72ab18d95c44f9fcf29d65abff2ca08cf9b75d54a29c1a1a", func := "scrivener/scrivenerlaw06.BallotTotal", spec := "ballotTotal", unfollowed := true, recurses := true, apart := false, narrowed := true }
def BallotTotalUptoSaid : Prop := ballotTotalUptoRow.holds Try.pinned (OpenSpec.upto ballotTotalSpec)

/-- 'scrivenerlaw06.BallotRises', WHERE WHAT IT READS IS OF BULK AT MOST 1048576: true; the input reads as it did. -/
def ballotRisesUptoRow : OpenClaim := { program := "ytpmkpkfkimcpjaa", sum := "5f1edb5383f91f9b72ab18d95c44f9fcf29d65abff2ca08cf9b75d54a29c1a1a", func := "scrivener/scrivenerlaw06.BallotRises", spec := "ballotRises", unfollowed := true, recurses := true, apart := false, narrowed := true }
def BallotRisesUptoSaid : Prop := ballotRisesUptoRow.holds Try.pinned (OpenSpec.upto ballotRisesSpec)

/-- 'scrivenerlaw06.BallotOrder', WHERE WHAT IT READS IS OF BULK AT MOST 1048576: true; the input reads as it did. -/
def ballotOrderUptoRow : OpenClaim := { program := "ytpmkpkfkimcpjaa", sum := "5f1edb5383f91f9b72ab18d95c44f9fcf29d65abff2ca08cf9b75d54a29c1a1a", func := "scrivener/scrivenerlaw06.BallotOrder", spec := "ballotOrder", unfollowed := true, recurses := true, apart := false, narrowed := true }
def BallotOrderUptoSaid : Prop := ballotOrderUptoRow.holds Try.pinned (OpenSpec.upto ballotOrderSpec)

/-- 'scrivenerlaw06.BallotBack', WHERE WHAT IT READS IS OF BULK AT MOST 1048576: true; the input reads as it did. -/
def ballotBackUptoRow : OpenClaim := { program := "ytpmkpkfkimcpjaa", sum := "5f1edb5383f91f9b72ab18d95c44f9fcf29d65abff2ca08cf9b75d54a29c1a1a", func := "scrivener/scrivenerlaw06.BallotBack", spec := "ballotBack", unfollowed := true, recurses := true, apart := false, narrowed := true }
def BallotBackUptoSaid : Prop := ballotBackUptoRow.holds Try.pinned (OpenSpec.upto ballotBackSpec)

/-- 'scrivenerlaw06.BallotHighest', WHERE WHAT IT READS IS OF BULK AT MOST 1048576: true; the input reads as it did. -/
def ballotHighestUptoRow : OpenClaim := { program := "ytpmkpkfkimcpjaa", sum := "5f1edb5383f91f9b72ab18d95c44f9fcf29d65abff2ca08cf9b75d54a29c1a1a", func := "scrivener/scrivenerlaw06.BallotHighest", spec := "ballotHighest", unfollowed := true, recurses := true, apart := false, narrowed := true }
def BallotHighestUptoSaid : Prop := ballotHighestUptoRow.holds Try.pinned (OpenSpec.upto ballotHighestSpec)

end Rows
end Go.Proofs.Ytpmkpkfkimcpjaa

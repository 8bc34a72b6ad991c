/-
  No cell of these rows narrows 'for every input' (looked for: loops, veiled, ifaces, maps, wideKeys, modest, calm, conditions, laid).
  DERIVED. THE GIVEN ROWS OF THIS SEAT. 4 by the template 'for every input the law returns true; each argument reads behind the call as it read before'; 0 by the template 'total and deterministic' (their statements: YtbolgpjcmchfoaaTotals.lean).
  GIVEN WITH THE SEED: the statements are not yours to turn. If you find one false, say at which input.
  Laid BY PROGRAM, IN A SANDBOX (cutbox-rows.mjs): the forced cells as the released guide's own fill.sh prints them over the translation 56d543d7d7f30964… (all of the seat's roots in one cut). By AI agents, Wed Nov 11 2026. No macro, syntax, notation, axiom, sorry.
-/
import Derived.Test.YtbolgpjcmchfoaaChecked
import GoSem.Claim
import GoSem.ClaimJoined
import GoSem.ClaimMapViews
import Derived.JoinedTies
import Derived.KernelRfl
namespace Go.Proofs.Ytbolgpjcmchfoaa
/- THE CELL 'sum', in the pinned program and in every row, IS THE sha256 OF THE DUMP (.gsa) THAT YtbolgpjcmchfoaaProg.lean LOADS. Nothing in Lean hashes anything: it is a label: what it is worth is what the hold of that sum in a sandbox is worth. -/
noncomputable def Try.pinned : Pinned := { name := "ytbolgpjcmchfoaa", sum := "56d543d7d7f3096410a5db150be1e779c003e4c1101f969229cdb31077912c79", checked := Try.checked }
namespace Rows
def none {H : Type} : Left H := { results := [], args := [] }

/-- 'scarplaw16.ValidMore': WHATEVER THE INPUT: true; the input reads as it did. -/
def validMoreSpec : ChangeSpec := { name := "validMore", fn := fun _ => fun
  | [d1, d2, d3, d4, d5, d6] => { results := [.lit (.bool true)], args := [d1, d2, d3, d4, d5, d6] }
  | _ => none }
def validMoreRow : OpenClaim := { program := "ytbolgpjcmchfoaa", sum := "56d543d7d7f3096410a5db150be1e779c003e4c1101f969229cdb31077912c79", func := "scarp/scarplaw16.ValidMore", spec := "validMore", unfollowed := true, recurses := true, apart := false }
def ValidMoreSaid : Prop := validMoreRow.holds Try.pinned (OpenSpec.ofChange validMoreSpec)

/-- ITS FALSE NEIGHBOUR: 'it returns false'. Refute it at one input. -/
def validMoreWrong : ChangeSpec := { name := "validMore", fn := fun _ => fun
  | [d1, d2, d3, d4, d5, d6] => { results := [.lit (.bool false)], args := [d1, d2, d3, d4, d5, d6] }
  | _ => none }
def ValidMoreWrongFalsely : Prop := validMoreRow.holds Try.pinned (OpenSpec.ofChange validMoreWrong)

/-- 'scarplaw16.ValidQueue': WHATEVER THE INPUT: true; the input reads as it did. -/
def validQueueSpec : ChangeSpec := { name := "validQueue", fn := fun _ => fun
  | [d1, d2, d3] => { results := [.lit (.bool true)], args := [d1, d2, d3] }
  | _ => none }
def validQueueRow : OpenClaim := { program := "ytbolgpjcmchfoaa", sum := "56d543d7d7f3096410a5db150be1e779c003e4c1101f969229cdb31077912c79", func := "scarp/scarplaw16.ValidQueue", spec := "validQueue", unfollowed := true, recurses := true, apart := false }
def ValidQueueSaid : Prop := validQueueRow.holds Try.pinned (OpenSpec.ofChange validQueueSpec)

/-- ITS FALSE NEIGHBOUR: 'it returns false'. Refute it at one input. -/
def validQueueWrong : ChangeSpec := { name := "validQueue", fn := fun _ => fun
  | [d1, d2, d3] => { results := [.lit (.bool false)], args := [d1, d2, d3] }
  | _ => none }
def ValidQueueWrongFalsely : Prop := validQueueRow.holds Try.pinned (OpenSpec.ofChange validQueueWrong)

/-- 'scarplaw16.ValidReads': WHATEVER THE INPUT: true; the input reads as it did. -/
def validReadsSpec : ChangeSpec := { name := "validReads", fn := fun _ => fun
  | [d1, d2, d3, d4] => { results := [.lit (.bool true)], args := [d1, d2, d3, d4] }
  | _ => none }
def validReadsRow : OpenClaim := { program := "ytbolgpjcmchfoaa", sum := "56d543d7d7f3096410a5db150be1e779c003e4c1101f969229cdb31077912c79", func := "scarp/scarplaw16.ValidReads", spec := "validReads", unfollowed := true, recurses := true, apart := false }
def ValidReadsSaid : Prop := validReadsRow.holds Try.pinned (OpenSpec.ofChange validReadsSpec)

/-- ITS FALSE NEIGHBOUR: 'it returns false'. Refute it at one input. -/
def validReadsWrong : ChangeSpec := { name := "validReads", fn := fun _ => fun
  | [d1, d2, d3, d4] => { results := [.lit (.bool false)], args := [d1, d2, d3, d4] }
  | _ => none }
def ValidReadsWrongFalsely : Prop := validReadsRow.holds Try.pinned (OpenSpec.ofChange validReadsWrong)

/-- 'scarplaw16.ValidRows': WHATEVER THE INPUT: true; the input reads as it did. -/
def validRowsSpec : ChangeSpec := { name := "validRows", fn := fun _ => fun
  | [d] => { results := [.lit (.bool true)], args := [d] }
  | _ => none }
def validRowsRow : OpenClaim := { program := "ytbolgpjcmchfoaa", sum := "56d543d7d7f3096410a5db150be1e779c003e4c1101f969229cdb31077912c79", func := "scarp/scarplaw16.ValidRows", spec := "validRows", unfollowed := true, recurses := true, apart := false }
def ValidRowsSaid : Prop := validRowsRow.holds Try.pinned (OpenSpec.ofChange validRowsSpec)

/-- ITS FALSE NEIGHBOUR: 'it returns false'. Refute it at one input. -/
def validRowsWrong : ChangeSpec := { name := "validRows", fn := fun _ => fun
  | [d] => { results := [.lit (.bool false)], args := [d] }
  | _ => none }
def ValidRowsWrongFalsely : Prop := validRowsRow.holds Try.pinned (OpenSpec.ofChange validRowsWrong)

/- THE SECOND FORM. 'bulk': how many values and letters a reading holds, each counted each time it is reached (what is shared counts as often as it is met; a slice's spare places count too). A statement '..UptoSaid' is the law's where the arguments, and the package variables that the reading takes, are together of bulk at most 1048576: NARROWER than '..Said'. Prove '..Said' where nothing that the law and all that it calls make is longer than what came in: it says more and counts as full. Else prove '..UptoSaid'. A law counts once. -/
mutual
def uptoBulk {H : Type} : DataW H → Nat
  | .lit (.string bytes) => bytes.length + 1
  | .lit _ => 1
  | .nil => 1
  | .ptr d => uptoBulk d + 1
  | .slice elems spare => uptoBulkAll elems + uptoBulkAll spare + 1
  | .agg parts => uptoBulkAll parts + 1
  | .iface _ d => uptoBulk d + 1
  | .map entries => uptoBulkEntries entries + 1
  | .held _ => 1
def uptoBulkAll {H : Type} : List (DataW H) → Nat
  | [] => 0
  | d :: r => uptoBulk d + uptoBulkAll r
def uptoBulkEntries {H : Type} : List (Lit × DataW H) → Nat
  | [] => 0
  | x :: r => uptoBulkEntry x + uptoBulkEntries r
def uptoBulkEntry {H : Type} : Lit × DataW H → Nat
  | (.string bytes, d) => bytes.length + uptoBulk d + 1
  | (_, d) => uptoBulk d + 1
 end
def uptoSmall : (H : Type) → List (DataW H) → Bool := fun _ ds => decide (uptoBulkAll ds ≤ 1048576)
def OpenSpec.upto (s : _root_.Go.ChangeSpec) : _root_.Go.OpenSpec := { _root_.Go.OpenSpec.ofChange s with cond := some uptoSmall }

/-- 'scarplaw16.ValidMore', WHERE WHAT IT READS IS OF BULK AT MOST 1048576: true; the input reads as it did. -/
def validMoreUptoRow : OpenClaim := { program := "ytbolgpjcmchfoaa", sum := "56d543d7d7f3096410a5db150be1e779c003e4c1101f969229cdb31077912c79", func := "scarp/scarplaw16.ValidMore", spec := "validMore", unfollowed := true, recurses := true, apart := false, narrowed := true }
def ValidMoreUptoSaid : Prop := validMoreUptoRow.holds Try.pinned (OpenSpec.upto validMoreSpec)

/-- 'scarplaw16.ValidQueue', WHERE WHAT IT READS IS OF BULK AT MOST 1048576: true; the input reads as it did. -/
def validQueueUptoRow : OpenClaim := { program := "ytbolgpjcmchfoaa", sum := "56d543d7d7f3096410a5db150be1e779c003e4c1101f969229cdb31077912c79", func := "scarp/scarplaw16.ValidQueue", spec := "validQueue", unfollowed := true, recurses := true, apart := false, narrowed := true }
def ValidQueueUptoSaid : Prop := validQueueUptoRow.holds Try.pinned (OpenSpec.upto validQueueSpec)

/-- 'scarplaw16.ValidReads', WHERE WHAT IT READS IS OF BULK AT MOST 1048576: true; the input reads as it did. -/
def validReadsUptoRow : OpenClaim := { program := "ytbolgpjcmchfoaa", sum := "56d543d7d7f3096410a5db150be1e779c003e4c1101f969229cdb31077912c79", func := "scarp/scarplaw16.ValidReads", spec := "validReads", unfollowed := true, recurses := true, apart := false, narrowed := true }
def ValidReadsUptoSaid : Prop := validReadsUptoRow.holds Try.pinned (OpenSpec.upto validReadsSpec)

/-- 'scarplaw16.ValidRows', WHERE WHAT IT READS IS OF BULK AT MOST 1048576: true; the input reads as it did. -/
def validRowsUptoRow : OpenClaim := { program := "ytbolgpjcmchfoaa", sum := "56d543d7d7f3096410a5db150be1e779c003e4c1101f969229cdb31077912c79", func := "scarp/scarplaw16.ValidRows", spec := "validRows", unfollowed := true, recurses := true, apart := false, narrowed := true }
def ValidRowsUptoSaid : Prop := validRowsUptoRow.holds Try.pinned (OpenSpec.upto validRowsSpec)

end Rows
end Go.Proofs.Ytbolgpjcmchfoaa

/-
  No cell of these rows narrows 'for every input' (looked for: loops, veiled, ifaces, maps, wideKeys, modest, calm, conditions, laid).
  DERIVED. THE GIVEN ROWS OF THIS SEAT. 4 by the template 'for every input the law returns true; each argument reads behind the call as it read before'; 0 by the template 'total and deterministic' (their statements: YtbjifmoiblicgaaTotals.lean).
  GIVEN WITH THE SEED: the statements are not yours to turn. If you find one false, say at which input.
  Laid BY PROGRAM, IN A SANDBOX (cutbox-rows.mjs): the forced cells as the released guide's own fill.sh prints them over the translation a2b96dd8f1f51102… (all of the seat's roots in one cut). By AI agents, Wed Nov 11 2026. No macro, syntax, notation, axiom, sorry.
-/
import Derived.Test.YtbjifmoiblicgaaChecked
import GoSem.Claim
import GoSem.ClaimJoined
import GoSem.ClaimMapViews
import Derived.JoinedTies
import Derived.KernelRfl
namespace Go.Proofs.Ytbjifmoiblicgaa
/- THE CELL 'sum', in the pinned program and in every row, IS THE sha256 OF THE DUMP (.gsa) THAT YtbjifmoiblicgaaProg.lean LOADS. Nothing in Lean hashes anything: it is a label: what it is worth is what the hold of that sum in a sandbox is worth. -/
noncomputable def Try.pinned : Pinned := { name := "ytbjifmoiblicgaa", sum := "a2b96dd8f1f51102d171f78a85a3516dc0a6df14477dd75e5e527f4b63367cde", checked := Try.checked }
namespace Rows
def none {H : Type} : Left H := { results := [], args := [] }

/-- 'emissarylaw26.ClientAgain': WHATEVER THE INPUT: true; the input reads as it did. -/
def clientAgainSpec : ChangeSpec := { name := "clientAgain", fn := fun _ => fun
  | [d1, d2] => { results := [.lit (.bool true)], args := [d1, d2] }
  | _ => none }
def clientAgainRow : OpenClaim := { program := "ytbjifmoiblicgaa", sum := "a2b96dd8f1f51102d171f78a85a3516dc0a6df14477dd75e5e527f4b63367cde", func := "emissary/emissarylaw26.ClientAgain", spec := "clientAgain", unfollowed := true, recurses := true, apart := false }
def ClientAgainSaid : Prop := clientAgainRow.holds Try.pinned (OpenSpec.ofChange clientAgainSpec)

/-- ITS FALSE NEIGHBOUR: 'it returns false'. Refute it at one input. -/
def clientAgainWrong : ChangeSpec := { name := "clientAgain", fn := fun _ => fun
  | [d1, d2] => { results := [.lit (.bool false)], args := [d1, d2] }
  | _ => none }
def ClientAgainWrongFalsely : Prop := clientAgainRow.holds Try.pinned (OpenSpec.ofChange clientAgainWrong)

/-- 'emissarylaw26.ClientLate': WHATEVER THE INPUT: true; the input reads as it did. -/
def clientLateSpec : ChangeSpec := { name := "clientLate", fn := fun _ => fun
  | [d1, d2, d3] => { results := [.lit (.bool true)], args := [d1, d2, d3] }
  | _ => none }
def clientLateRow : OpenClaim := { program := "ytbjifmoiblicgaa", sum := "a2b96dd8f1f51102d171f78a85a3516dc0a6df14477dd75e5e527f4b63367cde", func := "emissary/emissarylaw26.ClientLate", spec := "clientLate", unfollowed := true, recurses := true, apart := false }
def ClientLateSaid : Prop := clientLateRow.holds Try.pinned (OpenSpec.ofChange clientLateSpec)

/-- ITS FALSE NEIGHBOUR: 'it returns false'. Refute it at one input. -/
def clientLateWrong : ChangeSpec := { name := "clientLate", fn := fun _ => fun
  | [d1, d2, d3] => { results := [.lit (.bool false)], args := [d1, d2, d3] }
  | _ => none }
def ClientLateWrongFalsely : Prop := clientLateRow.holds Try.pinned (OpenSpec.ofChange clientLateWrong)

/-- 'emissarylaw26.ClientPlays': WHATEVER THE INPUT: true; the input reads as it did. -/
def clientPlaysSpec : ChangeSpec := { name := "clientPlays", fn := fun _ => fun
  | [d1, d2] => { results := [.lit (.bool true)], args := [d1, d2] }
  | _ => none }
def clientPlaysRow : OpenClaim := { program := "ytbjifmoiblicgaa", sum := "a2b96dd8f1f51102d171f78a85a3516dc0a6df14477dd75e5e527f4b63367cde", func := "emissary/emissarylaw26.ClientPlays", spec := "clientPlays", unfollowed := true, recurses := true, apart := false }
def ClientPlaysSaid : Prop := clientPlaysRow.holds Try.pinned (OpenSpec.ofChange clientPlaysSpec)

/-- ITS FALSE NEIGHBOUR: 'it returns false'. Refute it at one input. -/
def clientPlaysWrong : ChangeSpec := { name := "clientPlays", fn := fun _ => fun
  | [d1, d2] => { results := [.lit (.bool false)], args := [d1, d2] }
  | _ => none }
def ClientPlaysWrongFalsely : Prop := clientPlaysRow.holds Try.pinned (OpenSpec.ofChange clientPlaysWrong)

/-- 'emissarylaw26.ClientCalls': WHATEVER THE INPUT: true; the input reads as it did. -/
def clientCallsSpec : ChangeSpec := { name := "clientCalls", fn := fun _ => fun
  | [d] => { results := [.lit (.bool true)], args := [d] }
  | _ => none }
def clientCallsRow : OpenClaim := { program := "ytbjifmoiblicgaa", sum := "a2b96dd8f1f51102d171f78a85a3516dc0a6df14477dd75e5e527f4b63367cde", func := "emissary/emissarylaw26.ClientCalls", spec := "clientCalls", unfollowed := true, recurses := true, apart := false }
def ClientCallsSaid : Prop := clientCallsRow.holds Try.pinned (OpenSpec.ofChange clientCallsSpec)

/-- ITS FALSE NEIGHBOUR: 'it returns false'. Refute it at one input. -/
def clientCallsWrong : ChangeSpec := { name := "clientCalls", fn := fun _ => fun
  | [d] => { results := [.lit (.bool false)], args := [d] }
  | _ => none }
def ClientCallsWrongFalsely : Prop := clientCallsRow.holds Try.pinned (OpenSpec.ofChange clientCallsWrong)

/- THE SECOND FORM. 'bulk': how many values and letters a reading holds, each counted each time it is reached (what is shared counts as often as it is met; a slice's spare places count too). A statement '..UptoSaid' is the law's where the arguments, and the package variables that the reading takes, are together of bulk at most 1048576: NARROWER than '..Said'. Prove '..Said' where nothing that the law and all that it calls make is longer than what came in: it says more and counts as full. Else prove '..UptoSaid'. A law counts once. -/
mutual
def uptoBulk {H : Type} : DataW H → Nat
  | .lit (.string bytes) => bytes.length + 1
  | .lit _ => 1
  | .nil => 1
  | .ptr d => uptoBulk d + 1
  | .slice elems spare => uptoBulkAll elems + uptoBulkAll spare + 1
  | .agg parts => uptoBulkAll parts + 1
  | .iface _ d => uptoBulk d + 1
  | .map entries => uptoBulkEntries entries + 1
  | .held _ => 1
def uptoBulkAll {H : Type} : List (DataW H) → Nat
  | [] => 0
  | d :: r => uptoBulk d + uptoBulkAll r
def uptoBulkEntries {H : Type} : List (Lit × DataW H) → Nat
  | [] => 0
  | x :: r => uptoBulkEntry x + uptoBulkEntries r
def uptoBulkEntry {H : Type} : Lit × DataW H → Nat
  | (.string bytes, d) => bytes.length + uptoBulk d + 1
  | (_, d) => uptoBulk d + 1
 end
def uptoSmall : (H : Type) → List (DataW H) → Bool := fun _ ds => decide (uptoBulkAll ds ≤ 1048576)
def OpenSpec.upto (s : _root_.Go.ChangeSpec) : _root_.Go.OpenSpec := { _root_.Go.OpenSpec.ofChange s with cond := some uptoSmall }

/-- 'emissarylaw26.ClientAgain', WHERE WHAT IT READS IS OF BULK AT MOST 1048576: true; the input reads as it did. -/
def clientAgainUptoRow : OpenClaim := { program := "ytbjifmoiblicgaa", sum := "a2b96dd8f1f51102d171f78a85a3516dc0a6df14477dd75e5e527f4b63367cde", func := "emissary/emissarylaw26.ClientAgain", spec := "clientAgain", unfollowed := true, recurses := true, apart := false, narrowed := true }
def ClientAgainUptoSaid : Prop := clientAgainUptoRow.holds Try.pinned (OpenSpec.upto clientAgainSpec)

/-- 'emissarylaw26.ClientLate', WHERE WHAT IT READS IS OF BULK AT MOST 1048576: true; the input reads as it did. -/
def clientLateUptoRow : OpenClaim := { program := "ytbjifmoiblicgaa", sum := "a2b96dd8f1f51102d171f78a85a3516dc0a6df14477dd75e5e527f4b63367cde", func := "emissary/emissarylaw26.ClientLate", spec := "clientLate", unfollowed := true, recurses := true, apart := false, narrowed := true }
def ClientLateUptoSaid : Prop := clientLateUptoRow.holds Try.pinned (OpenSpec.upto clientLateSpec)

/-- 'emissarylaw26.ClientPlays', WHERE WHAT IT READS IS OF BULK AT MOST 1048576: true; the input reads as it did. -/
def clientPlaysUptoRow : OpenClaim := { program := "ytbjifmoiblicgaa", sum := "a2b96dd8f1f51102d171f78a85a3516dc0a6df14477dd75e5e527f4b63367cde", func := "emissary/emissarylaw26.ClientPlays", spec := "clientPlays", unfollowed := true, recurses := true, apart := false, narrowed := true }
def ClientPlaysUptoSaid : Prop := clientPlaysUptoRow.holds Try.pinned (OpenSpec.upto clientPlaysSpec)

/-- 'emissarylaw26.ClientCalls', WHERE WHAT IT READS IS OF BULK AT MOST 1048576: true; the input reads as it did. -/
def clientCallsUptoRow : OpenClaim := { program := "ytbjifmoiblicgaa", sum := "a2b96dd8f1f51102d171f78a85a3516dc0a6df14477dd75e5e527f4b63367cde", func := "emissary/emissarylaw26.ClientCalls", spec := "clientCalls", unfollowed := true, recurses := true, apart := false, narrowed := true }
def ClientCallsUptoSaid : Prop := clientCallsUptoRow.holds Try.pinned (OpenSpec.upto clientCallsSpec)

end Rows
end Go.Proofs.Ytbjifmoiblicgaa

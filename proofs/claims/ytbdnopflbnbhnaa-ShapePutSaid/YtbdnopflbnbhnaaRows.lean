/-
  No cell of these rows narrows 'for every input' (looked for: loops, veiled, ifaces, maps, wideKeys, modest, calm, conditions, laid).
  DERIVED. THE GIVEN ROWS OF THIS SEAT. 4 by the template 'for every input the law returns true; each argument reads behind the call as it read before'; 0 by the template 'total and deterministic' (their statements: YtbdnopflbnbhnaaTotals.lean).
  GIVEN WITH THE SEED: the statements are not yours to turn. If you find one false, say at which input.
  Laid BY PROGRAM, IN A SANDBOX (cutbox-rows.mjs): the forced cells as the released guide's own fill.sh prints them over the translation da672b5222acfa63… (all of the seat's roots in one cut). By AI agents, Wed Nov 11 2026. No macro, syntax, notation, axiom, sorry.
-/
import Derived.Test.YtbdnopflbnbhnaaChecked
import GoSem.Claim
import GoSem.ClaimJoined
import GoSem.ClaimMapViews
import Derived.JoinedTies
import Derived.KernelRfl
namespace Go.Proofs.Ytbdnopflbnbhnaa
/- THE CELL 'sum', in the pinned program and in every row, IS THE sha256 OF THE DUMP (.gsa) THAT YtbdnopflbnbhnaaProg.lean LOADS. Nothing in Lean hashes anything: it is a label: what it is worth is what the hold of that sum in a sandbox is worth. -/
noncomputable def Try.pinned : Pinned := { name := "ytbdnopflbnbhnaa", sum := "da672b5222acfa633a3d7f351a0da3c766df341f2e9d182fc08c30c57064e5b1", checked := Try.checked }
namespace Rows
def none {H : Type} : Left H := { results := [], args := [] }

/-- 'emissarylaw18.ShapeSame': WHATEVER THE INPUT: true; the input reads as it did. -/
def shapeSameSpec : ChangeSpec := { name := "shapeSame", fn := fun _ => fun
  | [d1, d2] => { results := [.lit (.bool true)], args := [d1, d2] }
  | _ => none }
def shapeSameRow : OpenClaim := { program := "ytbdnopflbnbhnaa", sum := "da672b5222acfa633a3d7f351a0da3c766df341f2e9d182fc08c30c57064e5b1", func := "emissary/emissarylaw18.ShapeSame", spec := "shapeSame", unfollowed := true, recurses := true, apart := false }
def ShapeSameSaid : Prop := shapeSameRow.holds Try.pinned (OpenSpec.ofChange shapeSameSpec)

/-- ITS FALSE NEIGHBOUR: 'it returns false'. Refute it at one input. -/
def shapeSameWrong : ChangeSpec := { name := "shapeSame", fn := fun _ => fun
  | [d1, d2] => { results := [.lit (.bool false)], args := [d1, d2] }
  | _ => none }
def ShapeSameWrongFalsely : Prop := shapeSameRow.holds Try.pinned (OpenSpec.ofChange shapeSameWrong)

/-- 'emissarylaw18.ShapePut': WHATEVER THE INPUT: true; the input reads as it did. -/
def shapePutSpec : ChangeSpec := { name := "shapePut", fn := fun _ => fun
  | [d1, d2] => { results := [.lit (.bool true)], args := [d1, d2] }
  | _ => none }
def shapePutRow : OpenClaim := { program := "ytbdnopflbnbhnaa", sum := "da672b5222acfa633a3d7f351a0da3c766df341f2e9d182fc08c30c57064e5b1", func := "emissary/emissarylaw18.ShapePut", spec := "shapePut", recurses := true, apart := false }
def ShapePutSaid : Prop := shapePutRow.holds Try.pinned (OpenSpec.ofChange shapePutSpec)

/-- ITS FALSE NEIGHBOUR: 'it returns false'. Refute it at one input. -/
def shapePutWrong : ChangeSpec := { name := "shapePut", fn := fun _ => fun
  | [d1, d2] => { results := [.lit (.bool false)], args := [d1, d2] }
  | _ => none }
def ShapePutWrongFalsely : Prop := shapePutRow.holds Try.pinned (OpenSpec.ofChange shapePutWrong)

/-- 'emissarylaw18.ShapeIs': WHATEVER THE INPUT: true; the input reads as it did. -/
def shapeIsSpec : ChangeSpec := { name := "shapeIs", fn := fun _ => fun
  | [d1, d2] => { results := [.lit (.bool true)], args := [d1, d2] }
  | _ => none }
def shapeIsRow : OpenClaim := { program := "ytbdnopflbnbhnaa", sum := "da672b5222acfa633a3d7f351a0da3c766df341f2e9d182fc08c30c57064e5b1", func := "emissary/emissarylaw18.ShapeIs", spec := "shapeIs", unfollowed := true, recurses := true, apart := false }
def ShapeIsSaid : Prop := shapeIsRow.holds Try.pinned (OpenSpec.ofChange shapeIsSpec)

/-- ITS FALSE NEIGHBOUR: 'it returns false'. Refute it at one input. -/
def shapeIsWrong : ChangeSpec := { name := "shapeIs", fn := fun _ => fun
  | [d1, d2] => { results := [.lit (.bool false)], args := [d1, d2] }
  | _ => none }
def ShapeIsWrongFalsely : Prop := shapeIsRow.holds Try.pinned (OpenSpec.ofChange shapeIsWrong)

/-- 'emissarylaw18.ShapeStays': WHATEVER THE INPUT: true; the input reads as it did. -/
def shapeStaysSpec : ChangeSpec := { name := "shapeStays", fn := fun _ => fun
  | [d1, d2, d3] => { results := [.lit (.bool true)], args := [d1, d2, d3] }
  | _ => none }
def shapeStaysRow : OpenClaim := { program := "ytbdnopflbnbhnaa", sum := "da672b5222acfa633a3d7f351a0da3c766df341f2e9d182fc08c30c57064e5b1", func := "emissary/emissarylaw18.ShapeStays", spec := "shapeStays", unfollowed := true, recurses := true, apart := false }
def ShapeStaysSaid : Prop := shapeStaysRow.holds Try.pinned (OpenSpec.ofChange shapeStaysSpec)

/-- ITS FALSE NEIGHBOUR: 'it returns false'. Refute it at one input. -/
def shapeStaysWrong : ChangeSpec := { name := "shapeStays", fn := fun _ => fun
  | [d1, d2, d3] => { results := [.lit (.bool false)], args := [d1, d2, d3] }
  | _ => none }
def ShapeStaysWrongFalsely : Prop := shapeStaysRow.holds Try.pinned (OpenSpec.ofChange shapeStaysWrong)

/- THE SECOND FORM. 'bulk': how many values and letters a reading holds, each counted each time it is reached (what is shared counts as often as it is met; a slice's spare places count too). A statement '..UptoSaid' is the law's where the arguments, and the package variables that the reading takes, are together of bulk at most 1048576: NARROWER than '..Said'. Prove '..Said' where nothing that the law and all that it calls make is longer than what came in: it says more and counts as full. Else prove '..UptoSaid'. A law counts once. -/
mutual
def uptoBulk {H : Type} : DataW H → Nat
  | .lit (.string bytes) => bytes.length + 1
  | .lit _ => 1
  | .nil => 1
  | .ptr d => uptoBulk d + 1
  | .slice elems spare => uptoBulkAll elems + uptoBulkAll spare + 1
  | .agg parts => uptoBulkAll parts + 1
  | .iface _ d => uptoBulk d + 1
  | .map entries => uptoBulkEntries entries + 1
  | .held _ => 1
def uptoBulkAll {H : Type} : List (DataW H) → Nat
  | [] => 0
  | d :: r => uptoBulk d + uptoBulkAll r
def uptoBulkEntries {H : Type} : List (Lit × DataW H) → Nat
  | [] => 0
  | x :: r => uptoBulkEntry x + uptoBulkEntries r
def uptoBulkEntry {H : Type} : Lit × DataW H → Nat
  | (.string bytes, d) => bytes.length + uptoBulk d + 1
  | (_, d) => uptoBulk d + 1
 end
def uptoSmall : (H : Type) → List (DataW H) → Bool := fun _ ds => decide (uptoBulkAll ds ≤ 1048576)
def OpenSpec.upto (s : _root_.Go.ChangeSpec) : _root_.Go.OpenSpec := { _root_.Go.OpenSpec.ofChange s with cond := some uptoSmall }

/-- 'emissarylaw18.ShapeSame', WHERE WHAT IT READS IS OF BULK AT MOST 1048576: true; the input reads as it did. -/
def shapeSameUptoRow : OpenClaim := { program := "ytbdnopflbnbhnaa", sum := "da672b5222acfa633a3d7f351a0da3c766df341f2e9d182fc08c30c57064e5b1", func := "emissary/emissarylaw18.ShapeSame", spec := "shapeSame", unfollowed := true, recurses := true, apart := false, narrowed := true }
def ShapeSameUptoSaid : Prop := shapeSameUptoRow.holds Try.pinned (OpenSpec.upto shapeSameSpec)

/-- 'emissarylaw18.ShapePut', WHERE WHAT IT READS IS OF BULK AT MOST 1048576: true; the input reads as it did. -/
def shapePutUptoRow : OpenClaim := { program := "ytbdnopflbnbhnaa", sum := "da672b5222acfa633a3d7f351a0da3c766df341f2e9d182fc08c30c57064e5b1", func := "emissary/emissarylaw18.ShapePut", spec := "shapePut", recurses := true, apart := false, narrowed := true }
def ShapePutUptoSaid : Prop := shapePutUptoRow.holds Try.pinned (OpenSpec.upto shapePutSpec)

/-- 'emissarylaw18.ShapeIs', WHERE WHAT IT READS IS OF BULK AT MOST 1048576: true; the input reads as it did. -/
def shapeIsUptoRow : OpenClaim := { program := "ytbdnopflbnbhnaa", sum := "da672b5222acfa633a3d7f351a0da3c766df341f2e9d182fc08c30c57064e5b1", func := "emissary/emissarylaw18.ShapeIs", spec := "shapeIs", unfollowed := true, recurses := true, apart := false, narrowed := true }
def ShapeIsUptoSaid : Prop := shapeIsUptoRow.holds Try.pinned (OpenSpec.upto shapeIsSpec)

/-- 'emissarylaw18.ShapeStays', WHERE WHAT IT READS IS OF BULK AT MOST 1048576: true; the input reads as it did. -/
def shapeStaysUptoRow : OpenClaim := { program := "ytbdnopflbnbhnaa", sum := "da672b5222acfa633a3d7f351a0da3c766df341f2e9d182fc08c30c57064e5b1", func := "emissary/emissarylaw18.ShapeStays", spec := "shapeStays", unfollowed := true, recurses := true, apart := false, narrowed := true }
def ShapeStaysUptoSaid : Prop := shapeStaysUptoRow.holds Try.pinned (OpenSpec.upto shapeStaysSpec)

end Rows
end Go.Proofs.Ytbdnopflbnbhnaa

/-
  No cell of these rows narrows 'for every input' (looked for: loops, veiled, ifaces, maps, wideKeys, modest, calm, conditions, laid).
  DERIVED. THE GIVEN ROWS OF THIS SEAT. 3 by the template 'for every input the law returns true; each argument reads behind the call as it read before'; 0 by the template 'total and deterministic' (their statements: YtanlgidliflepaaTotals.lean).
  GIVEN WITH THE SEED: the statements are not yours to turn. If you find one false, say at which input.
  Laid BY PROGRAM, IN A SANDBOX (cutbox-rows.mjs): the forced cells as the released guide's own fill.sh prints them over the translation 34b1c4809915d9cf… (all of the seat's roots in one cut). By AI agents, Wed Nov 11 2026. No macro, syntax, notation, axiom, sorry.
-/
import Derived.Test.YtanlgidliflepaaChecked
import GoSem.Claim
import GoSem.ClaimJoined
import GoSem.ClaimMapViews
import Derived.JoinedTies
import Derived.KernelRfl
namespace Go.Proofs.Ytanlgidliflepaa
/- THE CELL 'sum', in the pinned program and in every row, IS THE sha256 OF THE DUMP (.gsa) THAT YtanlgidliflepaaProg.lean LOADS. Nothing in Lean hashes anything: it is a label: what it is worth is what the hold of that sum in a sandbox is worth. -/
noncomputable def Try.pinned : Pinned := { name := "ytanlgidliflepaa", sum := "34b1c4809915d9cf87312a0e49a48dde8c8e86a79e33f7b8ef398379e64becd8", checked := Try.checked }
namespace Rows
def none {H : Type} : Left H := { results := [], args := [] }

/-- 'concordatlaw06.WallsNone': WHATEVER THE INPUT: true; the input reads as it did. -/
def wallsNoneSpec : ChangeSpec := { name := "wallsNone", fn := fun _ => fun
  | [d1, d2] => { results := [.lit (.bool true)], args := [d1, d2] }
  | _ => none }
def wallsNoneRow : OpenClaim := { program := "ytanlgidliflepaa", sum := "34b1c4809915d9cf87312a0e49a48dde8c8e86a79e33f7b8ef398379e64becd8", func := "concordat/concordatlaw06.WallsNone", spec := "wallsNone", unfollowed := true, recurses := true, apart := false }
def WallsNoneSaid : Prop := wallsNoneRow.holds Try.pinned (OpenSpec.ofChange wallsNoneSpec)

/-- ITS FALSE NEIGHBOUR: 'it returns false'. Refute it at one input. -/
def wallsNoneWrong : ChangeSpec := { name := "wallsNone", fn := fun _ => fun
  | [d1, d2] => { results := [.lit (.bool false)], args := [d1, d2] }
  | _ => none }
def WallsNoneWrongFalsely : Prop := wallsNoneRow.holds Try.pinned (OpenSpec.ofChange wallsNoneWrong)

/-- 'concordatlaw06.WallsSure': WHATEVER THE INPUT: true; the input reads as it did. -/
def wallsSureSpec : ChangeSpec := { name := "wallsSure", fn := fun _ => fun
  | [d1, d2] => { results := [.lit (.bool true)], args := [d1, d2] }
  | _ => none }
def wallsSureRow : OpenClaim := { program := "ytanlgidliflepaa", sum := "34b1c4809915d9cf87312a0e49a48dde8c8e86a79e33f7b8ef398379e64becd8", func := "concordat/concordatlaw06.WallsSure", spec := "wallsSure", unfollowed := true, recurses := true, apart := false }
def WallsSureSaid : Prop := wallsSureRow.holds Try.pinned (OpenSpec.ofChange wallsSureSpec)

/-- ITS FALSE NEIGHBOUR: 'it returns false'. Refute it at one input. -/
def wallsSureWrong : ChangeSpec := { name := "wallsSure", fn := fun _ => fun
  | [d1, d2] => { results := [.lit (.bool false)], args := [d1, d2] }
  | _ => none }
def WallsSureWrongFalsely : Prop := wallsSureRow.holds Try.pinned (OpenSpec.ofChange wallsSureWrong)

/-- 'concordatlaw06.WallsAll': WHATEVER THE INPUT: true; the input reads as it did. -/
def wallsAllSpec : ChangeSpec := { name := "wallsAll", fn := fun _ => fun
  | [d1, d2] => { results := [.lit (.bool true)], args := [d1, d2] }
  | _ => none }
def wallsAllRow : OpenClaim := { program := "ytanlgidliflepaa", sum := "34b1c4809915d9cf87312a0e49a48dde8c8e86a79e33f7b8ef398379e64becd8", func := "concordat/concordatlaw06.WallsAll", spec := "wallsAll", unfollowed := true, recurses := true, apart := false }
def WallsAllSaid : Prop := wallsAllRow.holds Try.pinned (OpenSpec.ofChange wallsAllSpec)

/-- ITS FALSE NEIGHBOUR: 'it returns false'. Refute it at one input. -/
def wallsAllWrong : ChangeSpec := { name := "wallsAll", fn := fun _ => fun
  | [d1, d2] => { results := [.lit (.bool false)], args := [d1, d2] }
  | _ => none }
def WallsAllWrongFalsely : Prop := wallsAllRow.holds Try.pinned (OpenSpec.ofChange wallsAllWrong)

/- THE SECOND FORM. 'bulk': how many values and letters a reading holds, each counted each time it is reached (what is shared counts as often as it is met; a slice's spare places count too). A statement '..UptoSaid' is the law's where the arguments, and the package variables that the reading takes, are together of bulk at most 1048576: NARROWER than '..Said'. Prove '..Said' where nothing that the law and all that it calls make is longer than what came in: it says more and counts as full. Else prove '..UptoSaid'. A law counts once. -/
mutual
def uptoBulk {H : Type} : DataW H → Nat
  | .lit (.string bytes) => bytes.length + 1
  | .lit _ => 1
  | .nil => 1
  | .ptr d => uptoBulk d + 1
  | .slice elems spare => uptoBulkAll elems + uptoBulkAll spare + 1
  | .agg parts => uptoBulkAll parts + 1
  | .iface _ d => uptoBulk d + 1
  | .map entries => uptoBulkEntries entries + 1
  | .held _ => 1
def uptoBulkAll {H : Type} : List (DataW H) → Nat
  | [] => 0
  | d :: r => uptoBulk d + uptoBulkAll r
def uptoBulkEntries {H : Type} : List (Lit × DataW H) → Nat
  | [] => 0
  | x :: r => uptoBulkEntry x + uptoBulkEntries r
def uptoBulkEntry {H : Type} : Lit × DataW H → Nat
  | (.string bytes, d) => bytes.length + uptoBulk d + 1
  | (_, d) => uptoBulk d + 1
 end
def uptoSmall : (H : Type) → List (DataW H) → Bool := fun _ ds => decide (uptoBulkAll ds ≤ 1048576)
def OpenSpec.upto (s : _root_.Go.ChangeSpec) : _root_.Go.OpenSpec := { _root_.Go.OpenSpec.ofChange s with cond := some uptoSmall }

/-- 'concordatlaw06.WallsNone', WHERE WHAT IT READS IS OF BULK AT MOST 1048576: true; the input reads as it did. -/
def wallsNoneUptoRow : OpenClaim := { program := "ytanlgidliflepaa", sum := "34b1c4809915d9cf87312a0e49a48dde8c8e86a79e33f7b8ef398379e64becd8", func := "concordat/concordatlaw06.WallsNone", spec := "wallsNone", unfollowed := true, recurses := true, apart := false, narrowed := true }
def WallsNoneUptoSaid : Prop := wallsNoneUptoRow.holds Try.pinned (OpenSpec.upto wallsNoneSpec)

/-- 'concordatlaw06.WallsSure', WHERE WHAT IT READS IS OF BULK AT MOST 1048576: true; the input reads as it did. -/
def wallsSureUptoRow : OpenClaim := { program := "ytanlgidliflepaa", sum := "34b1c4809915d9cf87312a0e49a48dde8c8e86a79e33f7b8ef398379e64becd8", func := "concordat/concordatlaw06.WallsSure", spec := "wallsSure", unfollowed := true, recurses := true, apart := false, narrowed := true }
def WallsSureUptoSaid : Prop := wallsSureUptoRow.holds Try.pinned (OpenSpec.upto wallsSureSpec)

/-- 'concordatlaw06.WallsAll', WHERE WHAT IT READS IS OF BULK AT MOST 1048576: true; the input reads as it did. -/
def wallsAllUptoRow : OpenClaim := { program := "ytanlgidliflepaa", sum := "34b1c4809915d9cf87312a0e49a48dde8c8e86a79e33f7b8ef398379e64becd8", func := "concordat/concordatlaw06.WallsAll", spec := "wallsAll", unfollowed := true, recurses := true, apart := false, narrowed := true }
def WallsAllUptoSaid : Prop := wallsAllUptoRow.holds Try.pinned (OpenSpec.upto wallsAllSpec)

end Rows
end Go.Proofs.Ytanlgidliflepaa

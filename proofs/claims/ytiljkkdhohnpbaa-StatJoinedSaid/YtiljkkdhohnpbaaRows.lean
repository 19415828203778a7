/-
  No cell of these rows narrows 'for every input' (looked for: loops, veiled, ifaces, maps, wideKeys, modest, calm, conditions, laid).
  DERIVED. THE GIVEN ROWS OF THIS SEAT. 4 by the template 'for every input the law returns true; each argument reads behind the call as it read before'; 0 by the template 'total and deterministic' (their statements: YtiljkkdhohnpbaaTotals.lean).
  GIVEN WITH THE SEED: the statements are not yours to turn. If you find one false, say at which input.
  Laid BY PROGRAM, IN A SANDBOX (cutbox-rows.mjs): the forced cells as the released guide's own fill.sh prints them over the translation 3abee131378cf36c… (all of the seat's roots in one cut). By AI agents, Wed Nov 11 2026. No macro, syntax, notation, axiom, sorry.
-/
import Derived.Test.YtiljkkdhohnpbaaChecked
import GoSem.Claim
import GoSem.ClaimJoined
import GoSem.ClaimMapViews
import Derived.JoinedTies
import Derived.KernelRfl
namespace Go.Proofs.Ytiljkkdhohnpbaa
/- THE CELL 'sum', in the pinned program and in every row, IS THE sha256 OF THE DUMP (.gsa) THAT YtiljkkdhohnpbaaProg.lean LOADS. Nothing in Lean hashes anything: it is a label: what it is worth is what the hold of that sum in a sandbox is worth. -/
noncomputable def Try.pinned : Pinned := { name := "ytiljkkdhohnpbaa", sum := "3abee131378cf36c297688a706dd84d36e44af57a276c816199330b81a5834ee", checked := Try.checked }
namespace Rows
def none {H : Type} : Left H := { results := [], args := [] }

/-- 'quaysidelaw22.StatOf': WHATEVER THE INPUT: true; the input reads as it did. -/
def statOfSpec : ChangeSpec := { name := "statOf", fn := fun _ => fun
  | [d1, d2] => { results := [.lit (.bool true)], args := [d1, d2] }
  | _ => none }
def statOfRow : OpenClaim := { program := "ytiljkkdhohnpbaa", sum := "3abee131378cf36c297688a706dd84d36e44af57a276c816199330b81a5834ee", func := "quayside/quaysidelaw22.StatOf", spec := "statOf", inPlace := ["internal/bytealg.abigen_runtime_cmpstring"], unfollowed := true, recurses := true, apart := false }
def StatOfSaid : Prop := statOfRow.holds Try.pinned (OpenSpec.ofChange statOfSpec)

/-- ITS FALSE NEIGHBOUR: 'it returns false'. Refute it at one input. -/
def statOfWrong : ChangeSpec := { name := "statOf", fn := fun _ => fun
  | [d1, d2] => { results := [.lit (.bool false)], args := [d1, d2] }
  | _ => none }
def StatOfWrongFalsely : Prop := statOfRow.holds Try.pinned (OpenSpec.ofChange statOfWrong)

/-- 'quaysidelaw22.StatFinds': WHATEVER THE INPUT: true; the input reads as it did. -/
def statFindsSpec : ChangeSpec := { name := "statFinds", fn := fun _ => fun
  | [d1, d2, d3] => { results := [.lit (.bool true)], args := [d1, d2, d3] }
  | _ => none }
def statFindsRow : OpenClaim := { program := "ytiljkkdhohnpbaa", sum := "3abee131378cf36c297688a706dd84d36e44af57a276c816199330b81a5834ee", func := "quayside/quaysidelaw22.StatFinds", spec := "statFinds", inPlace := ["internal/bytealg.abigen_runtime_cmpstring"], unfollowed := true, recurses := true, apart := false }
def StatFindsSaid : Prop := statFindsRow.holds Try.pinned (OpenSpec.ofChange statFindsSpec)

/-- ITS FALSE NEIGHBOUR: 'it returns false'. Refute it at one input. -/
def statFindsWrong : ChangeSpec := { name := "statFinds", fn := fun _ => fun
  | [d1, d2, d3] => { results := [.lit (.bool false)], args := [d1, d2, d3] }
  | _ => none }
def StatFindsWrongFalsely : Prop := statFindsRow.holds Try.pinned (OpenSpec.ofChange statFindsWrong)

/-- 'quaysidelaw22.StatWiders': WHATEVER THE INPUT: true; the input reads as it did. -/
def statWidersSpec : ChangeSpec := { name := "statWiders", fn := fun _ => fun
  | [d1, d2, d3] => { results := [.lit (.bool true)], args := [d1, d2, d3] }
  | _ => none }
def statWidersRow : OpenClaim := { program := "ytiljkkdhohnpbaa", sum := "3abee131378cf36c297688a706dd84d36e44af57a276c816199330b81a5834ee", func := "quayside/quaysidelaw22.StatWiders", spec := "statWiders", inPlace := ["internal/bytealg.abigen_runtime_cmpstring"], unfollowed := true, recurses := true, apart := false }
def StatWidersSaid : Prop := statWidersRow.holds Try.pinned (OpenSpec.ofChange statWidersSpec)

/-- ITS FALSE NEIGHBOUR: 'it returns false'. Refute it at one input. -/
def statWidersWrong : ChangeSpec := { name := "statWiders", fn := fun _ => fun
  | [d1, d2, d3] => { results := [.lit (.bool false)], args := [d1, d2, d3] }
  | _ => none }
def StatWidersWrongFalsely : Prop := statWidersRow.holds Try.pinned (OpenSpec.ofChange statWidersWrong)

/-- 'quaysidelaw22.StatJoined': WHATEVER THE INPUT: true; the input reads as it did. -/
def statJoinedSpec : ChangeSpec := { name := "statJoined", fn := fun _ => fun
  | [d1, d2, d3] => { results := [.lit (.bool true)], args := [d1, d2, d3] }
  | _ => none }
def statJoinedRow : OpenClaim := { program := "ytiljkkdhohnpbaa", sum := "3abee131378cf36c297688a706dd84d36e44af57a276c816199330b81a5834ee", func := "quayside/quaysidelaw22.StatJoined", spec := "statJoined", inPlace := ["internal/bytealg.abigen_runtime_cmpstring"], unfollowed := true, recurses := true, apart := false }
def StatJoinedSaid : Prop := statJoinedRow.holds Try.pinned (OpenSpec.ofChange statJoinedSpec)

/-- ITS FALSE NEIGHBOUR: 'it returns false'. Refute it at one input. -/
def statJoinedWrong : ChangeSpec := { name := "statJoined", fn := fun _ => fun
  | [d1, d2, d3] => { results := [.lit (.bool false)], args := [d1, d2, d3] }
  | _ => none }
def StatJoinedWrongFalsely : Prop := statJoinedRow.holds Try.pinned (OpenSpec.ofChange statJoinedWrong)

/- THE SECOND FORM. 'bulk': how many values and letters a reading holds, each counted each time it is reached (what is shared counts as often as it is met; a slice's spare places count too). A statement '..UptoSaid' is the law's where the arguments, and the package variables that the reading takes, are together of bulk at most 1048576: NARROWER than '..Said'. Prove '..Said' where nothing that the law and all that it calls make is longer than what came in: it says more and counts as full. Else prove '..UptoSaid'. A law counts once. -/
mutual
def uptoBulk {H : Type} : DataW H → Nat
  | .lit (.string bytes) => bytes.length + 1
  | .lit _ => 1
  | .nil => 1
  | .ptr d => uptoBulk d + 1
  | .slice elems spare => uptoBulkAll elems + uptoBulkAll spare + 1
  | .agg parts => uptoBulkAll parts + 1
  | .iface _ d => uptoBulk d + 1
  | .map entries => uptoBulkEntries entries + 1
  | .held _ => 1
def uptoBulkAll {H : Type} : List (DataW H) → Nat
  | [] => 0
  | d :: r => uptoBulk d + uptoBulkAll r
def uptoBulkEntries {H : Type} : List (Lit × DataW H) → Nat
  | [] => 0
  | x :: r => uptoBulkEntry x + uptoBulkEntries r
def uptoBulkEntry {H : Type} : Lit × DataW H → Nat
  | (.string bytes, d) => bytes.length + uptoBulk d + 1
  | (_, d) => uptoBulk d + 1
 end
def uptoSmall : (H : Type) → List (DataW H) → Bool := fun _ ds => decide (uptoBulkAll ds ≤ 1048576)
def OpenSpec.upto (s : _root_.Go.ChangeSpec) : _root_.Go.OpenSpec := { _root_.Go.OpenSpec.ofChange s with cond := some uptoSmall }

/-- 'quaysidelaw22.StatOf', WHERE WHAT IT READS IS OF BULK AT MOST 1048576: true; the input reads as it did. -/
def statOfUptoRow : OpenClaim := { program := "ytiljkkdhohnpbaa", sum := "3abee131378cf36c297688a706dd84d36e44af57a276c816199330b81a5834ee", func := "quayside/quaysidelaw22.StatOf", spec := "statOf", inPlace := ["internal/bytealg.abigen_runtime_cmpstring"], unfollowed := true, recurses := true, apart := false, narrowed := true }
def StatOfUptoSaid : Prop := statOfUptoRow.holds Try.pinned (OpenSpec.upto statOfSpec)

/-- 'quaysidelaw22.StatFinds', WHERE WHAT IT READS IS OF BULK AT MOST 1048576: true; the input reads as it did. -/
def statFindsUptoRow : OpenClaim := { program := "ytiljkkdhohnpbaa", sum := "3abee131378cf36c297688a706dd84d36e44af57a276c816199330b81a5834ee", func := "quayside/quaysidelaw22.StatFinds", spec := "statFinds", inPlace := ["internal/bytealg.abigen_runtime_cmpstring"], unfollowed := true, recurses := true, apart := false, narrowed := true }
def StatFindsUptoSaid : Prop := statFindsUptoRow.holds Try.pinned (OpenSpec.upto statFindsSpec)

/-- 'quaysidelaw22.StatWiders', WHERE WHAT IT READS IS OF BULK AT MOST 1048576: true; the input reads as it did. -/
def statWidersUptoRow : OpenClaim := { program := "ytiljkkdhohnpbaa", sum := "3abee131378cf36c297688a706dd84d36e44af57a276c816199330b81a5834ee", func := "quayside/quaysidelaw22.StatWiders", spec := "statWiders", inPlace := ["internal/bytealg.abigen_runtime_cmpstring"], unfollowed := true, recurses := true, apart := false, narrowed := true }
def StatWidersUptoSaid : Prop := statWidersUptoRow.holds Try.pinned (OpenSpec.upto statWidersSpec)

/-- 'quaysidelaw22.StatJoined', WHERE WHAT IT READS IS OF BULK AT MOST 1048576: true; the input reads as it did. -/
def statJoinedUptoRow : OpenClaim := { program := "ytiljkkdhohnpbaa", sum := "3abee131378cf36c297688a706dd84d36e44af57a276c816199330b81a5834ee", func := "quayside/quaysidelaw22.StatJoined", spec := "statJoined", inPlace := ["internal/bytealg.abigen_runtime_cmpstring"], unfollowed := true, recurses := true, apart := false, narrowed := true }
def StatJoinedUptoSaid : Prop := statJoinedUptoRow.holds Try.pinned (OpenSpec.upto statJoinedSpec)

end Rows
end Go.Proofs.Ytiljkkdhohnpbaa

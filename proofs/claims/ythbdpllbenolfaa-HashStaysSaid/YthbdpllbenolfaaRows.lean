/-
  No cell of these rows narrows 'for every input' (looked for: loops, veiled, ifaces, maps, wideKeys, modest, calm, conditions, laid).
  DERIVED. THE GIVEN ROWS OF THIS SEAT. 4 by the template 'for every input the law returns true; each argument reads behind the call as it read before'; 0 by the template 'total and deterministic' (their statements: YthbdpllbenolfaaTotals.lean).
  GIVEN WITH THE SEED: the statements are not yours to turn. If you find one false, say at which input.
  Laid BY PROGRAM, IN A SANDBOX (cutbox-rows.mjs): the forced cells as the released guide's own fill.sh prints them over the translation b1afcbcab5d0c166… (all of the seat's roots in one cut). By AI agents, Wed Nov 11 2026. No macro, syntax, notation, axiom, sorry.
-/
import Derived.Test.YthbdpllbenolfaaChecked
import GoSem.Claim
import GoSem.ClaimJoined
import GoSem.ClaimMapViews
import Derived.JoinedTies
import Derived.KernelRfl
namespace Go.Proofs.Ythbdpllbenolfaa
/- THE CELL 'sum', in the pinned program and in every row, IS THE sha256 OF THE DUMP (.gsa) THAT YthbdpllbenolfaaProg.lean LOADS. Nothing in Lean hashes anything: it is a label: what it is worth is what the hold of that sum in a sandbox is worth. -/
noncomputable def Try.pinned : Pinned := { name := "ythbdpllbenolfaa", sum := "b1afcbcab5d0c166d9e10371a3c29b62039eb176e68efe2ae3a2d8710a6b4703", checked := Try.checked }
namespace Rows
def none {H : Type} : Left H := { results := [], args := [] }

/-- 'quaysidelaw10.HashPlays': WHATEVER THE INPUT: true; the input reads as it did. -/
def hashPlaysSpec : ChangeSpec := { name := "hashPlays", fn := fun _ => fun
  | [d1, d2] => { results := [.lit (.bool true)], args := [d1, d2] }
  | _ => none }
def hashPlaysRow : OpenClaim := { program := "ythbdpllbenolfaa", sum := "b1afcbcab5d0c166d9e10371a3c29b62039eb176e68efe2ae3a2d8710a6b4703", func := "quayside/quaysidelaw10.HashPlays", spec := "hashPlays", unfollowed := true, recurses := true, apart := false }
def HashPlaysSaid : Prop := hashPlaysRow.holds Try.pinned (OpenSpec.ofChange hashPlaysSpec)

/-- ITS FALSE NEIGHBOUR: 'it returns false'. Refute it at one input. -/
def hashPlaysWrong : ChangeSpec := { name := "hashPlays", fn := fun _ => fun
  | [d1, d2] => { results := [.lit (.bool false)], args := [d1, d2] }
  | _ => none }
def HashPlaysWrongFalsely : Prop := hashPlaysRow.holds Try.pinned (OpenSpec.ofChange hashPlaysWrong)

/-- 'quaysidelaw10.HashStays': WHATEVER THE INPUT: true; the input reads as it did. -/
def hashStaysSpec : ChangeSpec := { name := "hashStays", fn := fun _ => fun
  | [d1, d2] => { results := [.lit (.bool true)], args := [d1, d2] }
  | _ => none }
def hashStaysRow : OpenClaim := { program := "ythbdpllbenolfaa", sum := "b1afcbcab5d0c166d9e10371a3c29b62039eb176e68efe2ae3a2d8710a6b4703", func := "quayside/quaysidelaw10.HashStays", spec := "hashStays", unfollowed := true, recurses := true, apart := false }
def HashStaysSaid : Prop := hashStaysRow.holds Try.pinned (OpenSpec.ofChange hashStaysSpec)

/-- ITS FALSE NEIGHBOUR: 'it returns false'. Refute it at one input. -/
def hashStaysWrong : ChangeSpec := { name := "hashStays", fn := fun _ => fun
  | [d1, d2] => { results := [.lit (.bool false)], args := [d1, d2] }
  | _ => none }
def HashStaysWrongFalsely : Prop := hashStaysRow.holds Try.pinned (OpenSpec.ofChange hashStaysWrong)

/-- 'quaysidelaw10.HashGrows': WHATEVER THE INPUT: true; the input reads as it did. -/
def hashGrowsSpec : ChangeSpec := { name := "hashGrows", fn := fun _ => fun
  | [d1, d2] => { results := [.lit (.bool true)], args := [d1, d2] }
  | _ => none }
def hashGrowsRow : OpenClaim := { program := "ythbdpllbenolfaa", sum := "b1afcbcab5d0c166d9e10371a3c29b62039eb176e68efe2ae3a2d8710a6b4703", func := "quayside/quaysidelaw10.HashGrows", spec := "hashGrows", unfollowed := true, recurses := true, apart := false }
def HashGrowsSaid : Prop := hashGrowsRow.holds Try.pinned (OpenSpec.ofChange hashGrowsSpec)

/-- ITS FALSE NEIGHBOUR: 'it returns false'. Refute it at one input. -/
def hashGrowsWrong : ChangeSpec := { name := "hashGrows", fn := fun _ => fun
  | [d1, d2] => { results := [.lit (.bool false)], args := [d1, d2] }
  | _ => none }
def HashGrowsWrongFalsely : Prop := hashGrowsRow.holds Try.pinned (OpenSpec.ofChange hashGrowsWrong)

/-- 'quaysidelaw10.HashAlike': WHATEVER THE INPUT: true; the input reads as it did. -/
def hashAlikeSpec : ChangeSpec := { name := "hashAlike", fn := fun _ => fun
  | [d1, d2] => { results := [.lit (.bool true)], args := [d1, d2] }
  | _ => none }
def hashAlikeRow : OpenClaim := { program := "ythbdpllbenolfaa", sum := "b1afcbcab5d0c166d9e10371a3c29b62039eb176e68efe2ae3a2d8710a6b4703", func := "quayside/quaysidelaw10.HashAlike", spec := "hashAlike", unfollowed := true, recurses := true, apart := false }
def HashAlikeSaid : Prop := hashAlikeRow.holds Try.pinned (OpenSpec.ofChange hashAlikeSpec)

/-- ITS FALSE NEIGHBOUR: 'it returns false'. Refute it at one input. -/
def hashAlikeWrong : ChangeSpec := { name := "hashAlike", fn := fun _ => fun
  | [d1, d2] => { results := [.lit (.bool false)], args := [d1, d2] }
  | _ => none }
def HashAlikeWrongFalsely : Prop := hashAlikeRow.holds Try.pinned (OpenSpec.ofChange hashAlikeWrong)

/- THE SECOND FORM. 'bulk': how many values and letters a reading holds, each counted each time it is reached (what is shared counts as often as it is met; a slice's spare places count too). A statement '..UptoSaid' is the law's where the arguments, and the package variables that the reading takes, are together of bulk at most 1048576: NARROWER than '..Said'. Prove '..Said' where nothing that the law and all that it calls make is longer than what came in: it says more and counts as full. Else prove '..UptoSaid'. A law counts once. -/
mutual
def uptoBulk {H : Type} : DataW H → Nat
  | .lit (.string bytes) => bytes.length + 1
  | .lit _ => 1
  | .nil => 1
  | .ptr d => uptoBulk d + 1
  | .slice elems spare => uptoBulkAll elems + uptoBulkAll spare + 1
  | .agg parts => uptoBulkAll parts + 1
  | .iface _ d => uptoBulk d + 1
  | .map entries => uptoBulkEntries entries + 1
  | .held _ => 1
def uptoBulkAll {H : Type} : List (DataW H) → Nat
  | [] => 0
  | d :: r => uptoBulk d + uptoBulkAll r
def uptoBulkEntries {H : Type} : List (Lit × DataW H) → Nat
  | [] => 0
  | x :: r => uptoBulkEntry x + uptoBulkEntries r
def uptoBulkEntry {H : Type} : Lit × DataW H → Nat
  | (.string bytes, d) => bytes.length + uptoBulk d + 1
  | (_, d) => uptoBulk d + 1
 end
def uptoSmall : (H : Type) → List (DataW H) → Bool := fun _ ds => decide (uptoBulkAll ds ≤ 1048576)
def OpenSpec.upto (s : _root_.Go.ChangeSpec) : _root_.Go.OpenSpec := { _root_.Go.OpenSpec.ofChange s with cond := some uptoSmall }

/-- 'quaysidelaw10.HashPlays', WHERE WHAT IT READS IS OF BULK AT MOST 1048576: true; the input reads as it did. -/
def hashPlaysUptoRow : OpenClaim := { program := "ythbdpllbenolfaa", sum := "b1afcbcab5d0c166d9e10371a3c29b62039eb176e68efe2ae3a2d8710a6b4703", func := "quayside/quaysidelaw10.HashPlays", spec := "hashPlays", unfollowed := true, recurses := true, apart := false, narrowed := true }
def HashPlaysUptoSaid : Prop := hashPlaysUptoRow.holds Try.pinned (OpenSpec.upto hashPlaysSpec)

/-- 'quaysidelaw10.HashStays', WHERE WHAT IT READS IS OF BULK AT MOST 1048576: true; the input reads as it did. -/
def hashStaysUptoRow : OpenClaim := { program := "ythbdpllbenolfaa", sum := "b1afcbcab5d0c166d9e10371a3c29b62039eb176e68efe2ae3a2d8710a6b4703", func := "quayside/quaysidelaw10.HashStays", spec := "hashStays", unfollowed := true, recurses := true, apart := false, narrowed := true }
def HashStaysUptoSaid : Prop := hashStaysUptoRow.holds Try.pinned (OpenSpec.upto hashStaysSpec)

/-- 'quaysidelaw10.HashGrows', WHERE WHAT IT READS IS OF BULK AT MOST 1048576: true; the input reads as it did. -/
def hashGrowsUptoRow : OpenClaim := { program := "ythbdpllbenolfaa", sum := "b1afcbcab5d0c166d9e10371a3c29b62039eb176e68efe2ae3a2d8710a6b4703", func := "quayside/quaysidelaw10.HashGrows", spec := "hashGrows", unfollowed := true, recurses := true, apart := false, narrowed := true }
def HashGrowsUptoSaid : Prop := hashGrowsUptoRow.holds Try.pinned (OpenSpec.upto hashGrowsSpec)

/-- 'quaysidelaw10.HashAlike', WHERE WHAT IT READS IS OF BULK AT MOST 1048576: true; the input reads as it did. -/
def hashAlikeUptoRow : OpenClaim := { program := "ythbdpllbenolfaa", sum := "b1afcbcab5d0c166d9e10371a3c29b62039eb176e68efe2ae3a2d8710a6b4703", func := "quayside/quaysidelaw10.HashAlike", spec := "hashAlike", unfollowed := true, recurses := true, apart := false, narrowed := true }
def HashAlikeUptoSaid : Prop := hashAlikeUptoRow.holds Try.pinned (OpenSpec.upto hashAlikeSpec)

end Rows
end Go.Proofs.Ythbdpllbenolfaa

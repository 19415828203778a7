/-
  No cell of these rows narrows 'for every input' (looked for: loops, veiled, ifaces, maps, wideKeys, modest, calm, conditions, laid).
  DERIVED. THE GIVEN ROWS OF THIS SEAT. 3 by the template 'for every input the law returns true; each argument reads behind the call as it read before'; 0 by the template 'total and deterministic' (their statements: YthalloeiidpfeaaGreatTotals.lean).
  GIVEN WITH THE SEED: the statements are not yours to turn. If you find one false, say at which input.
  Laid BY PROGRAM, IN A SANDBOX (cutbox-rows.mjs): the forced cells as the released guide's own fill.sh prints them over the translation 1dce84d3200d3ad9… (all of the seat's roots in one cut). By AI agents, Wed Nov 11 2026. No macro, syntax, notation, axiom, sorry.
-/
import Derived.Test.YthalloeiidpfeaaGreatChecked
import GoSem.Claim
import GoSem.ClaimJoined
import GoSem.ClaimMapViews
import Derived.JoinedTies
import Derived.KernelRfl
namespace Go.Proofs.YthalloeiidpfeaaGreat
/- THE CELL 'sum', in the pinned program and in every row, IS THE sha256 OF THE DUMP (.gsa) THAT YthalloeiidpfeaaGreatProg.lean LOADS. Nothing in Lean hashes anything: it is a label: what it is worth is what the hold of that sum in a sandbox is worth. -/
noncomputable def Tryz.pinned : Pinned := { name := "ythalloeiidpfeaagreat", sum := "1dce84d3200d3ad9667fb9783037feec3bf68b673e304342d7d137843589c898", checked := Tryz.checked }
namespace Rows
def none {H : Type} : Left H := { results := [], args := [] }

/-- 'quaysidelaw08.KeepRecords': WHATEVER THE INPUT: true; the input reads as it did. -/
def keepRecordsSpec : ChangeSpec := { name := "keepRecords", fn := fun _ => fun
  | [d] => { results := [.lit (.bool true)], args := [d] }
  | _ => none }
def keepRecordsRow : OpenClaim := { program := "ythalloeiidpfeaagreat", sum := "1dce84d3200d3ad9667fb9783037feec3bf68b673e304342d7d137843589c898", func := "quayside/quaysidelaw08.KeepRecords", spec := "keepRecords", inPlace := ["internal/abi.NoEscape", "internal/bytealg.MakeNoZero", "internal/bytealg.abigen_runtime_cmpstring", "math/bits.Add64", "slices.overlaps[quayside/api.Stock]"], unfollowed := true, recurses := true, plainKeys := false, apart := false }
def KeepRecordsSaid : Prop := keepRecordsRow.holds Tryz.pinned (OpenSpec.ofChange keepRecordsSpec)

/-- ITS FALSE NEIGHBOUR: 'it returns false'. Refute it at one input. -/
def keepRecordsWrong : ChangeSpec := { name := "keepRecords", fn := fun _ => fun
  | [d] => { results := [.lit (.bool false)], args := [d] }
  | _ => none }
def KeepRecordsWrongFalsely : Prop := keepRecordsRow.holds Tryz.pinned (OpenSpec.ofChange keepRecordsWrong)

/-- 'quaysidelaw08.KeepLays': WHATEVER THE INPUT: true; the input reads as it did. -/
def keepLaysSpec : ChangeSpec := { name := "keepLays", fn := fun _ => fun
  | [d1, d2] => { results := [.lit (.bool true)], args := [d1, d2] }
  | _ => none }
def keepLaysRow : OpenClaim := { program := "ythalloeiidpfeaagreat", sum := "1dce84d3200d3ad9667fb9783037feec3bf68b673e304342d7d137843589c898", func := "quayside/quaysidelaw08.KeepLays", spec := "keepLays", inPlace := ["internal/abi.NoEscape", "internal/bytealg.MakeNoZero", "internal/bytealg.abigen_runtime_cmpstring", "math/bits.Add64", "slices.overlaps[quayside/api.Stock]"], unfollowed := true, recurses := true, plainKeys := false, apart := false }
def KeepLaysSaid : Prop := keepLaysRow.holds Tryz.pinned (OpenSpec.ofChange keepLaysSpec)

/-- ITS FALSE NEIGHBOUR: 'it returns false'. Refute it at one input. -/
def keepLaysWrong : ChangeSpec := { name := "keepLays", fn := fun _ => fun
  | [d1, d2] => { results := [.lit (.bool false)], args := [d1, d2] }
  | _ => none }
def KeepLaysWrongFalsely : Prop := keepLaysRow.holds Tryz.pinned (OpenSpec.ofChange keepLaysWrong)

/-- 'quaysidelaw08.KeepNobody': WHATEVER THE INPUT: true; the input reads as it did. -/
def keepNobodySpec : ChangeSpec := { name := "keepNobody", fn := fun _ => fun
  | [d] => { results := [.lit (.bool true)], args := [d] }
  | _ => none }
def keepNobodyRow : OpenClaim := { program := "ythalloeiidpfeaagreat", sum := "1dce84d3200d3ad9667fb9783037feec3bf68b673e304342d7d137843589c898", func := "quayside/quaysidelaw08.KeepNobody", spec := "keepNobody", inPlace := ["internal/abi.NoEscape", "internal/bytealg.MakeNoZero", "internal/bytealg.abigen_runtime_cmpstring", "math/bits.Add64", "slices.overlaps[quayside/api.Stock]"], unfollowed := true, recurses := true, plainKeys := false, apart := false }
def KeepNobodySaid : Prop := keepNobodyRow.holds Tryz.pinned (OpenSpec.ofChange keepNobodySpec)

/-- ITS FALSE NEIGHBOUR: 'it returns false'. Refute it at one input. -/
def keepNobodyWrong : ChangeSpec := { name := "keepNobody", fn := fun _ => fun
  | [d] => { results := [.lit (.bool false)], args := [d] }
  | _ => none }
def KeepNobodyWrongFalsely : Prop := keepNobodyRow.holds Tryz.pinned (OpenSpec.ofChange keepNobodyWrong)

/- THE SECOND FORM. 'bulk': how many values and letters a reading holds, each counted each time it is reached (what is shared counts as often as it is met; a slice's spare places count too). A statement '..UptoSaid' is the law's where the arguments, and the package variables that the reading takes, are together of bulk at most 1048576: NARROWER than '..Said'. Prove '..Said' where nothing that the law and all that it calls make is longer than what came in: it says more and counts as full. Else prove '..UptoSaid'. A law counts once. -/
mutual
def uptoBulk {H : Type} : DataW H → Nat
  | .lit (.string bytes) => bytes.length + 1
  | .lit _ => 1
  | .nil => 1
  | .ptr d => uptoBulk d + 1
  | .slice elems spare => uptoBulkAll elems + uptoBulkAll spare + 1
  | .agg parts => uptoBulkAll parts + 1
  | .iface _ d => uptoBulk d + 1
  | .map entries => uptoBulkEntries entries + 1
  | .held _ => 1
def uptoBulkAll {H : Type} : List (DataW H) → Nat
  | [] => 0
  | d :: r => uptoBulk d + uptoBulkAll r
def uptoBulkEntries {H : Type} : List (Lit × DataW H) → Nat
  | [] => 0
  | x :: r => uptoBulkEntry x + uptoBulkEntries r
def uptoBulkEntry {H : Type} : Lit × DataW H → Nat
  | (.string bytes, d) => bytes.length + uptoBulk d + 1
  | (_, d) => uptoBulk d + 1
 end
def uptoSmall : (H : Type) → List (DataW H) → Bool := fun _ ds => decide (uptoBulkAll ds ≤ 1048576)
def OpenSpec.upto (s : _root_.Go.ChangeSpec) : _root_.Go.OpenSpec := { _root_.Go.OpenSpec.ofChange s with cond := some uptoSmall }

/-- 'quaysidelaw08.KeepRecords', WHERE WHAT IT READS IS OF BULK AT MOST 1048576: true; the input reads as it did. -/
def keepRecordsUptoRow : OpenClaim := { program := "ythalloeiidpfeaagreat", sum := "1dce84d3200d3ad9667fb9783037feec3bf68b673e304342d7d137843589c898", func := "quayside/quaysidelaw08.KeepRecords", spec := "keepRecords", inPlace := ["internal/abi.NoEscape", "internal/bytealg.MakeNoZero", "internal/bytealg.abigen_runtime_cmpstring", "math/bits.Add64", "slices.overlaps[quayside/api.Stock]"], unfollowed := true, recurses := true, plainKeys := false, apart := false, narrowed := true }
def KeepRecordsUptoSaid : Prop := keepRecordsUptoRow.holds Tryz.pinned (OpenSpec.upto keepRecordsSpec)

/-- 'quaysidelaw08.KeepLays', WHERE WHAT IT READS IS OF BULK AT MOST 1048576: true; the input reads as it did. -/
def keepLaysUptoRow : OpenClaim := { program := "ythalloeiidpfeaagreat", sum := "1dce84d3200d3ad9667fb9783037feec3bf68b673e304342d7d137843589c898", func := "quayside/quaysidelaw08.KeepLays", spec := "keepLays", inPlace := ["internal/abi.NoEscape", "internal/bytealg.MakeNoZero", "internal/bytealg.abigen_runtime_cmpstring", "math/bits.Add64", "slices.overlaps[quayside/api.Stock]"], unfollowed := true, recurses := true, plainKeys := false, apart := false, narrowed := true }
def KeepLaysUptoSaid : Prop := keepLaysUptoRow.holds Tryz.pinned (OpenSpec.upto keepLaysSpec)

/-- 'quaysidelaw08.KeepNobody', WHERE WHAT IT READS IS OF BULK AT MOST 1048576: true; the input reads as it did. -/
def keepNobodyUptoRow : OpenClaim := { program := "ythalloeiidpfeaagreat", sum := "1dce84d3200d3ad9667fb9783037feec3bf68b673e304342d7d137843589c898", func := "quayside/quaysidelaw08.KeepNobody", spec := "keepNobody", inPlace := ["internal/abi.NoEscape", "internal/bytealg.MakeNoZero", "internal/bytealg.abigen_runtime_cmpstring", "math/bits.Add64", "slices.overlaps[quayside/api.Stock]"], unfollowed := true, recurses := true, plainKeys := false, apart := false, narrowed := true }
def KeepNobodyUptoSaid : Prop := keepNobodyUptoRow.holds Tryz.pinned (OpenSpec.upto keepNobodySpec)

end Rows
end Go.Proofs.YthalloeiidpfeaaGreat

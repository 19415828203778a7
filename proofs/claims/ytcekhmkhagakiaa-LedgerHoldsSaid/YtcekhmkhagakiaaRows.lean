/-
  No cell of these rows narrows 'for every input' (looked for: loops, veiled, ifaces, maps, wideKeys, modest, calm, conditions, laid).
  DERIVED. THE GIVEN ROWS OF THIS SEAT. 10 by the template 'for every input the law returns true; each argument reads behind the call as it read before'; 0 by the template 'total and deterministic' (their statements: YtcekhmkhagakiaaTotals.lean).
  GIVEN WITH THE SEED: the statements are not yours to turn. If you find one false, say at which input.
  Laid BY PROGRAM, IN A SANDBOX (cutbox-rows.mjs): the forced cells as the released guide's own fill.sh prints them over the translation 1a1549e29dbebbbf… (all of the seat's roots in one cut). By AI agents, Wed Nov 11 2026. No macro, syntax, notation, axiom, sorry.
-/
import Derived.Test.YtcekhmkhagakiaaChecked
import GoSem.Claim
import GoSem.ClaimJoined
import GoSem.ClaimMapViews
import Derived.JoinedTies
import Derived.KernelRfl
namespace Go.Proofs.Ytcekhmkhagakiaa
/- THE CELL 'sum', in the pinned program and in every row, IS THE sha256 OF THE DUMP (.gsa) THAT YtcekhmkhagakiaaProg.lean LOADS. Nothing in Lean hashes anything: it is a label: what it is worth is what the hold of that sum in a sandbox is worth. -/
noncomputable def Try.pinned : Pinned := { name := "ytcekhmkhagakiaa", sum := "1a1549e29dbebbbfdfbf0e4537656222f191b0ae0f1bd5b43cc78203fa34ba27", checked := Try.checked }
namespace Rows
def none {H : Type} : Left H := { results := [], args := [] }

/-- 'quaysidelaw06.EntryPuts': WHATEVER THE INPUT: true; the input reads as it did. -/
def entryPutsSpec : ChangeSpec := { name := "entryPuts", fn := fun _ => fun
  | [d] => { results := [.lit (.bool true)], args := [d] }
  | _ => none }
def entryPutsRow : OpenClaim := { program := "ytcekhmkhagakiaa", sum := "1a1549e29dbebbbfdfbf0e4537656222f191b0ae0f1bd5b43cc78203fa34ba27", func := "quayside/quaysidelaw06.EntryPuts", spec := "entryPuts", inPlace := ["internal/abi.NoEscape"], unfollowed := true, recurses := true, plainKeys := false, apart := false }
def EntryPutsSaid : Prop := entryPutsRow.holds Try.pinned (OpenSpec.ofChange entryPutsSpec)

/-- ITS FALSE NEIGHBOUR: 'it returns false'. Refute it at one input. -/
def entryPutsWrong : ChangeSpec := { name := "entryPuts", fn := fun _ => fun
  | [d] => { results := [.lit (.bool false)], args := [d] }
  | _ => none }
def EntryPutsWrongFalsely : Prop := entryPutsRow.holds Try.pinned (OpenSpec.ofChange entryPutsWrong)

/-- 'quaysidelaw06.EntryTakes': WHATEVER THE INPUT: true; the input reads as it did. -/
def entryTakesSpec : ChangeSpec := { name := "entryTakes", fn := fun _ => fun
  | [d] => { results := [.lit (.bool true)], args := [d] }
  | _ => none }
def entryTakesRow : OpenClaim := { program := "ytcekhmkhagakiaa", sum := "1a1549e29dbebbbfdfbf0e4537656222f191b0ae0f1bd5b43cc78203fa34ba27", func := "quayside/quaysidelaw06.EntryTakes", spec := "entryTakes", inPlace := ["internal/abi.NoEscape"], unfollowed := true, recurses := true, plainKeys := false, apart := false }
def EntryTakesSaid : Prop := entryTakesRow.holds Try.pinned (OpenSpec.ofChange entryTakesSpec)

/-- ITS FALSE NEIGHBOUR: 'it returns false'. Refute it at one input. -/
def entryTakesWrong : ChangeSpec := { name := "entryTakes", fn := fun _ => fun
  | [d] => { results := [.lit (.bool false)], args := [d] }
  | _ => none }
def EntryTakesWrongFalsely : Prop := entryTakesRow.holds Try.pinned (OpenSpec.ofChange entryTakesWrong)

/-- 'quaysidelaw06.EntryHolds': WHATEVER THE INPUT: true; the input reads as it did. -/
def entryHoldsSpec : ChangeSpec := { name := "entryHolds", fn := fun _ => fun
  | [d1, d2] => { results := [.lit (.bool true)], args := [d1, d2] }
  | _ => none }
def entryHoldsRow : OpenClaim := { program := "ytcekhmkhagakiaa", sum := "1a1549e29dbebbbfdfbf0e4537656222f191b0ae0f1bd5b43cc78203fa34ba27", func := "quayside/quaysidelaw06.EntryHolds", spec := "entryHolds", inPlace := ["internal/abi.NoEscape"], unfollowed := true, recurses := true, plainKeys := false, apart := false }
def EntryHoldsSaid : Prop := entryHoldsRow.holds Try.pinned (OpenSpec.ofChange entryHoldsSpec)

/-- ITS FALSE NEIGHBOUR: 'it returns false'. Refute it at one input. -/
def entryHoldsWrong : ChangeSpec := { name := "entryHolds", fn := fun _ => fun
  | [d1, d2] => { results := [.lit (.bool false)], args := [d1, d2] }
  | _ => none }
def EntryHoldsWrongFalsely : Prop := entryHoldsRow.holds Try.pinned (OpenSpec.ofChange entryHoldsWrong)

/-- 'quaysidelaw06.EntryStocks': WHATEVER THE INPUT: true; the input reads as it did. -/
def entryStocksSpec : ChangeSpec := { name := "entryStocks", fn := fun _ => fun
  | [d1, d2] => { results := [.lit (.bool true)], args := [d1, d2] }
  | _ => none }
def entryStocksRow : OpenClaim := { program := "ytcekhmkhagakiaa", sum := "1a1549e29dbebbbfdfbf0e4537656222f191b0ae0f1bd5b43cc78203fa34ba27", func := "quayside/quaysidelaw06.EntryStocks", spec := "entryStocks", inPlace := ["internal/abi.NoEscape"], unfollowed := true, recurses := true, plainKeys := false, apart := false }
def EntryStocksSaid : Prop := entryStocksRow.holds Try.pinned (OpenSpec.ofChange entryStocksSpec)

/-- ITS FALSE NEIGHBOUR: 'it returns false'. Refute it at one input. -/
def entryStocksWrong : ChangeSpec := { name := "entryStocks", fn := fun _ => fun
  | [d1, d2] => { results := [.lit (.bool false)], args := [d1, d2] }
  | _ => none }
def EntryStocksWrongFalsely : Prop := entryStocksRow.holds Try.pinned (OpenSpec.ofChange entryStocksWrong)

/-- 'quaysidelaw06.EntryMoves': WHATEVER THE INPUT: true; the input reads as it did. -/
def entryMovesSpec : ChangeSpec := { name := "entryMoves", fn := fun _ => fun
  | [d1, d2] => { results := [.lit (.bool true)], args := [d1, d2] }
  | _ => none }
def entryMovesRow : OpenClaim := { program := "ytcekhmkhagakiaa", sum := "1a1549e29dbebbbfdfbf0e4537656222f191b0ae0f1bd5b43cc78203fa34ba27", func := "quayside/quaysidelaw06.EntryMoves", spec := "entryMoves", inPlace := ["internal/abi.NoEscape"], unfollowed := true, recurses := true, plainKeys := false, apart := false }
def EntryMovesSaid : Prop := entryMovesRow.holds Try.pinned (OpenSpec.ofChange entryMovesSpec)

/-- ITS FALSE NEIGHBOUR: 'it returns false'. Refute it at one input. -/
def entryMovesWrong : ChangeSpec := { name := "entryMoves", fn := fun _ => fun
  | [d1, d2] => { results := [.lit (.bool false)], args := [d1, d2] }
  | _ => none }
def EntryMovesWrongFalsely : Prop := entryMovesRow.holds Try.pinned (OpenSpec.ofChange entryMovesWrong)

/-- 'quaysidelaw07.LedgerReplays': WHATEVER THE INPUT: true; the input reads as it did. -/
def ledgerReplaysSpec : ChangeSpec := { name := "ledgerReplays", fn := fun _ => fun
  | [d] => { results := [.lit (.bool true)], args := [d] }
  | _ => none }
def ledgerReplaysRow : OpenClaim := { program := "ytcekhmkhagakiaa", sum := "1a1549e29dbebbbfdfbf0e4537656222f191b0ae0f1bd5b43cc78203fa34ba27", func := "quayside/quaysidelaw07.LedgerReplays", spec := "ledgerReplays", inPlace := ["internal/bytealg.abigen_runtime_cmpstring", "math/bits.Add64", "slices.overlaps[quayside/api.Stock]"], unfollowed := true, recurses := true, plainKeys := false, apart := false }
def LedgerReplaysSaid : Prop := ledgerReplaysRow.holds Try.pinned (OpenSpec.ofChange ledgerReplaysSpec)

/-- ITS FALSE NEIGHBOUR: 'it returns false'. Refute it at one input. -/
def ledgerReplaysWrong : ChangeSpec := { name := "ledgerReplays", fn := fun _ => fun
  | [d] => { results := [.lit (.bool false)], args := [d] }
  | _ => none }
def LedgerReplaysWrongFalsely : Prop := ledgerReplaysRow.holds Try.pinned (OpenSpec.ofChange ledgerReplaysWrong)

/-- 'quaysidelaw07.LedgerKeeps': WHATEVER THE INPUT: true; the input reads as it did. -/
def ledgerKeepsSpec : ChangeSpec := { name := "ledgerKeeps", fn := fun _ => fun
  | [d] => { results := [.lit (.bool true)], args := [d] }
  | _ => none }
def ledgerKeepsRow : OpenClaim := { program := "ytcekhmkhagakiaa", sum := "1a1549e29dbebbbfdfbf0e4537656222f191b0ae0f1bd5b43cc78203fa34ba27", func := "quayside/quaysidelaw07.LedgerKeeps", spec := "ledgerKeeps", inPlace := ["internal/bytealg.abigen_runtime_cmpstring", "math/bits.Add64", "slices.overlaps[quayside/api.Stock]"], unfollowed := true, recurses := true, plainKeys := false, apart := false }
def LedgerKeepsSaid : Prop := ledgerKeepsRow.holds Try.pinned (OpenSpec.ofChange ledgerKeepsSpec)

/-- ITS FALSE NEIGHBOUR: 'it returns false'. Refute it at one input. -/
def ledgerKeepsWrong : ChangeSpec := { name := "ledgerKeeps", fn := fun _ => fun
  | [d] => { results := [.lit (.bool false)], args := [d] }
  | _ => none }
def LedgerKeepsWrongFalsely : Prop := ledgerKeepsRow.holds Try.pinned (OpenSpec.ofChange ledgerKeepsWrong)

/-- 'quaysidelaw07.LedgerMoves': WHATEVER THE INPUT: true; the input reads as it did. -/
def ledgerMovesSpec : ChangeSpec := { name := "ledgerMoves", fn := fun _ => fun
  | [d1, d2] => { results := [.lit (.bool true)], args := [d1, d2] }
  | _ => none }
def ledgerMovesRow : OpenClaim := { program := "ytcekhmkhagakiaa", sum := "1a1549e29dbebbbfdfbf0e4537656222f191b0ae0f1bd5b43cc78203fa34ba27", func := "quayside/quaysidelaw07.LedgerMoves", spec := "ledgerMoves", inPlace := ["internal/bytealg.abigen_runtime_cmpstring", "math/bits.Add64", "slices.overlaps[quayside/api.Stock]"], unfollowed := true, recurses := true, plainKeys := false, apart := false }
def LedgerMovesSaid : Prop := ledgerMovesRow.holds Try.pinned (OpenSpec.ofChange ledgerMovesSpec)

/-- ITS FALSE NEIGHBOUR: 'it returns false'. Refute it at one input. -/
def ledgerMovesWrong : ChangeSpec := { name := "ledgerMoves", fn := fun _ => fun
  | [d1, d2] => { results := [.lit (.bool false)], args := [d1, d2] }
  | _ => none }
def LedgerMovesWrongFalsely : Prop := ledgerMovesRow.holds Try.pinned (OpenSpec.ofChange ledgerMovesWrong)

/-- 'quaysidelaw07.LedgerHolds': WHATEVER THE INPUT: true; the input reads as it did. -/
def ledgerHoldsSpec : ChangeSpec := { name := "ledgerHolds", fn := fun _ => fun
  | [d1, d2, d3] => { results := [.lit (.bool true)], args := [d1, d2, d3] }
  | _ => none }
def ledgerHoldsRow : OpenClaim := { program := "ytcekhmkhagakiaa", sum := "1a1549e29dbebbbfdfbf0e4537656222f191b0ae0f1bd5b43cc78203fa34ba27", func := "quayside/quaysidelaw07.LedgerHolds", spec := "ledgerHolds", inPlace := ["internal/bytealg.abigen_runtime_cmpstring", "math/bits.Add64", "slices.overlaps[quayside/api.Stock]"], unfollowed := true, recurses := true, plainKeys := false, apart := false }
def LedgerHoldsSaid : Prop := ledgerHoldsRow.holds Try.pinned (OpenSpec.ofChange ledgerHoldsSpec)

/-- ITS FALSE NEIGHBOUR: 'it returns false'. Refute it at one input. -/
def ledgerHoldsWrong : ChangeSpec := { name := "ledgerHolds", fn := fun _ => fun
  | [d1, d2, d3] => { results := [.lit (.bool false)], args := [d1, d2, d3] }
  | _ => none }
def LedgerHoldsWrongFalsely : Prop := ledgerHoldsRow.holds Try.pinned (OpenSpec.ofChange ledgerHoldsWrong)

/-- 'quaysidelaw07.LedgerEdges': WHATEVER THE INPUT: true; the input reads as it did. -/
def ledgerEdgesSpec : ChangeSpec := { name := "ledgerEdges", fn := fun _ => fun
  | [d1, d2] => { results := [.lit (.bool true)], args := [d1, d2] }
  | _ => none }
def ledgerEdgesRow : OpenClaim := { program := "ytcekhmkhagakiaa", sum := "1a1549e29dbebbbfdfbf0e4537656222f191b0ae0f1bd5b43cc78203fa34ba27", func := "quayside/quaysidelaw07.LedgerEdges", spec := "ledgerEdges", inPlace := ["internal/bytealg.abigen_runtime_cmpstring", "math/bits.Add64", "slices.overlaps[quayside/api.Stock]"], unfollowed := true, recurses := true, plainKeys := false, apart := false }
def LedgerEdgesSaid : Prop := ledgerEdgesRow.holds Try.pinned (OpenSpec.ofChange ledgerEdgesSpec)

/-- ITS FALSE NEIGHBOUR: 'it returns false'. Refute it at one input. -/
def ledgerEdgesWrong : ChangeSpec := { name := "ledgerEdges", fn := fun _ => fun
  | [d1, d2] => { results := [.lit (.bool false)], args := [d1, d2] }
  | _ => none }
def LedgerEdgesWrongFalsely : Prop := ledgerEdgesRow.holds Try.pinned (OpenSpec.ofChange ledgerEdgesWrong)

/- THE SECOND FORM. 'bulk': how many values and letters a reading holds, each counted each time it is reached (what is shared counts as often as it is met; a slice's spare places count too). A statement '..UptoSaid' is the law's where the arguments, and the package variables that the reading takes, are together of bulk at most 1048576: NARROWER than '..Said'. Prove '..Said' where nothing that the law and all that it calls make is longer than what came in: it says more and counts as full. Else prove '..UptoSaid'. A law counts once. -/
mutual
def uptoBulk {H : Type} : DataW H → Nat
  | .lit (.string bytes) => bytes.length + 1
  | .lit _ => 1
  | .nil => 1
  | .ptr d => uptoBulk d + 1
  | .slice elems spare => uptoBulkAll elems + uptoBulkAll spare + 1
  | .agg parts => uptoBulkAll parts + 1
  | .iface _ d => uptoBulk d + 1
  | .map entries => uptoBulkEntries entries + 1
  | .held _ => 1
def uptoBulkAll {H : Type} : List (DataW H) → Nat
  | [] => 0
  | d :: r => uptoBulk d + uptoBulkAll r
def uptoBulkEntries {H : Type} : List (Lit × DataW H) → Nat
  | [] => 0
  | x :: r => uptoBulkEntry x + uptoBulkEntries r
def uptoBulkEntry {H : Type} : Lit × DataW H → Nat
  | (.string bytes, d) => bytes.length + uptoBulk d + 1
  | (_, d) => uptoBulk d + 1
 end
def uptoSmall : (H : Type) → List (DataW H) → Bool := fun _ ds => decide (uptoBulkAll ds ≤ 1048576)
def OpenSpec.upto (s : _root_.Go.ChangeSpec) : _root_.Go.OpenSpec := { _root_.Go.OpenSpec.ofChange s with cond := some uptoSmall }

/-- 'quaysidelaw06.EntryPuts', WHERE WHAT IT READS IS OF BULK AT MOST 1048576: true; the input reads as it did. -/
def entryPutsUptoRow : OpenClaim := { program := "ytcekhmkhagakiaa", sum := "1a1549e29dbebbbfdfbf0e4537656222f191b0ae0f1bd5b43cc78203fa34ba27", func := "quayside/quaysidelaw06.EntryPuts", spec := "entryPuts", inPlace := ["internal/abi.NoEscape"], unfollowed := true, recurses := true, plainKeys := false, apart := false, narrowed := true }
def EntryPutsUptoSaid : Prop := entryPutsUptoRow.holds Try.pinned (OpenSpec.upto entryPutsSpec)

/-- 'quaysidelaw06.EntryTakes', WHERE WHAT IT READS IS OF BULK AT MOST 1048576: true; the input reads as it did. -/
def entryTakesUptoRow : OpenClaim := { program := "ytcekhmkhagakiaa", sum := "1a1549e29dbebbbfdfbf0e4537656222f191b0ae0f1bd5b43cc78203fa34ba27", func := "quayside/quaysidelaw06.EntryTakes", spec := "entryTakes", inPlace := ["internal/abi.NoEscape"], unfollowed := true, recurses := true, plainKeys := false, apart := false, narrowed := true }
def EntryTakesUptoSaid : Prop := entryTakesUptoRow.holds Try.pinned (OpenSpec.upto entryTakesSpec)

/-- 'quaysidelaw06.EntryHolds', WHERE WHAT IT READS IS OF BULK AT MOST 1048576: true; the input reads as it did. -/
def entryHoldsUptoRow : OpenClaim := { program := "ytcekhmkhagakiaa", sum := "1a1549e29dbebbbfdfbf0e4537656222f191b0ae0f1bd5b43cc78203fa34ba27", func := "quayside/quaysidelaw06.EntryHolds", spec := "entryHolds", inPlace := ["internal/abi.NoEscape"], unfollowed := true, recurses := true, plainKeys := false, apart := false, narrowed := true }
def EntryHoldsUptoSaid : Prop := entryHoldsUptoRow.holds Try.pinned (OpenSpec.upto entryHoldsSpec)

/-- 'quaysidelaw06.EntryStocks', WHERE WHAT IT READS IS OF BULK AT MOST 1048576: true; the input reads as it did. -/
def entryStocksUptoRow : OpenClaim := { program := "ytcekhmkhagakiaa", sum := "1a1549e29dbebbbfdfbf0e4537656222f191b0ae0f1bd5b43cc78203fa34ba27", func := "quayside/quaysidelaw06.EntryStocks", spec := "entryStocks", inPlace := ["internal/abi.NoEscape"], unfollowed := true, recurses := true, plainKeys := false, apart := false, narrowed := true }
def EntryStocksUptoSaid : Prop := entryStocksUptoRow.holds Try.pinned (OpenSpec.upto entryStocksSpec)

/-- 'quaysidelaw06.EntryMoves', WHERE WHAT IT READS IS OF BULK AT MOST 1048576: true; the input reads as it did. -/
def entryMovesUptoRow : OpenClaim := { program := "ytcekhmkhagakiaa", sum := "1a1549e29dbebbbfdfbf0e4537656222f191b0ae0f1bd5b43cc78203fa34ba27", func := "quayside/quaysidelaw06.EntryMoves", spec := "entryMoves", inPlace := ["internal/abi.NoEscape"], unfollowed := true, recurses := true, plainKeys := false, apart := false, narrowed := true }
def EntryMovesUptoSaid : Prop := entryMovesUptoRow.holds Try.pinned (OpenSpec.upto entryMovesSpec)

/-- 'quaysidelaw07.LedgerReplays', WHERE WHAT IT READS IS OF BULK AT MOST 1048576: true; the input reads as it did. -/
def ledgerReplaysUptoRow : OpenClaim := { program := "ytcekhmkhagakiaa", sum := "1a1549e29dbebbbfdfbf0e4537656222f191b0ae0f1bd5b43cc78203fa34ba27", func := "quayside/quaysidelaw07.LedgerReplays", spec := "ledgerReplays", inPlace := ["internal/bytealg.abigen_runtime_cmpstring", "math/bits.Add64", "slices.overlaps[quayside/api.Stock]"], unfollowed := true, recurses := true, plainKeys := false, apart := false, narrowed := true }
def LedgerReplaysUptoSaid : Prop := ledgerReplaysUptoRow.holds Try.pinned (OpenSpec.upto ledgerReplaysSpec)

/-- 'quaysidelaw07.LedgerKeeps', WHERE WHAT IT READS IS OF BULK AT MOST 1048576: true; the input reads as it did. -/
def ledgerKeepsUptoRow : OpenClaim := { program := "ytcekhmkhagakiaa", sum := "1a1549e29dbebbbfdfbf0e4537656222f191b0ae0f1bd5b43cc78203fa34ba27", func := "quayside/quaysidelaw07.LedgerKeeps", spec := "ledgerKeeps", inPlace := ["internal/bytealg.abigen_runtime_cmpstring", "math/bits.Add64", "slices.overlaps[quayside/api.Stock]"], unfollowed := true, recurses := true, plainKeys := false, apart := false, narrowed := true }
def LedgerKeepsUptoSaid : Prop := ledgerKeepsUptoRow.holds Try.pinned (OpenSpec.upto ledgerKeepsSpec)

/-- 'quaysidelaw07.LedgerMoves', WHERE WHAT IT READS IS OF BULK AT MOST 1048576: true; the input reads as it did. -/
def ledgerMovesUptoRow : OpenClaim := { program := "ytcekhmkhagakiaa", sum := "1a1549e29dbebbbfdfbf0e4537656222f191b0ae0f1bd5b43cc78203fa34ba27", func := "quayside/quaysidelaw07.LedgerMoves", spec := "ledgerMoves", inPlace := ["internal/bytealg.abigen_runtime_cmpstring", "math/bits.Add64", "slices.overlaps[quayside/api.Stock]"], unfollowed := true, recurses := true, plainKeys := false, apart := false, narrowed := true }
def LedgerMovesUptoSaid : Prop := ledgerMovesUptoRow.holds Try.pinned (OpenSpec.upto ledgerMovesSpec)

/-- 'quaysidelaw07.LedgerHolds', WHERE WHAT IT READS IS OF BULK AT MOST 1048576: true; the input reads as it did. -/
def ledgerHoldsUptoRow : OpenClaim := { program := "ytcekhmkhagakiaa", sum := "1a1549e29dbebbbfdfbf0e4537656222f191b0ae0f1bd5b43cc78203fa34ba27", func := "quayside/quaysidelaw07.LedgerHolds", spec := "ledgerHolds", inPlace := ["internal/bytealg.abigen_runtime_cmpstring", "math/bits.Add64", "slices.overlaps[quayside/api.Stock]"], unfollowed := true, recurses := true, plainKeys := false, apart := false, narrowed := true }
def LedgerHoldsUptoSaid : Prop := ledgerHoldsUptoRow.holds Try.pinned (OpenSpec.upto ledgerHoldsSpec)

/-- 'quaysidelaw07.LedgerEdges', WHERE WHAT IT READS IS OF BULK AT MOST 1048576: true; the input reads as it did. -/
def ledgerEdgesUptoRow : OpenClaim := { program := "ytcekhmkhagakiaa", sum := "1a1549e29dbebbbfdfbf0e4537656222f191b0ae0f1bd5b43cc78203fa34ba27", func := "quayside/quaysidelaw07.LedgerEdges", spec := "ledgerEdges", inPlace := ["internal/bytealg.abigen_runtime_cmpstring", "math/bits.Add64", "slices.overlaps[quayside/api.Stock]"], unfollowed := true, recurses := true, plainKeys := false, apart := false, narrowed := true }
def LedgerEdgesUptoSaid : Prop := ledgerEdgesUptoRow.holds Try.pinned (OpenSpec.upto ledgerEdgesSpec)

end Rows
end Go.Proofs.Ytcekhmkhagakiaa

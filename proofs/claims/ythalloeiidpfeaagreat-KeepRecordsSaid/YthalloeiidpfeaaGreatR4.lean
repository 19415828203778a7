/- Part of the proof (R4): an engine, rules or contracts of the functions; it states nothing of the claim by itself. -/
import Derived.Test.YthalloeiidpfeaaGreatR3
import Derived.Test.YthalloeiidpfeaaGreatR1
import Derived.Laws.Externs
import GoSem.Extern.BytealgCompare
import Derived.MapKept
import Derived.WideKeyRuns
import Derived.Lib.Overlaps
import Derived.Test.YthalloeiidpfeaaGreatR2

set_option linter.unusedVariables false
set_option linter.unusedSimpArgs false
namespace Go.Proofs
open Go Go.Q
open Tryz (prog)
def hA (h : HV) : Value := .agg #[.int .i64 h.id, .string (str h.sku), .string (str h.loc), .int .i64 h.q, .int .i64 h.st, .int .i64 h.due]
def sA (s : SV) : Value := .agg #[.string (str s.sku), .string (str s.loc), .int .i64 s.hand, .int .i64 s.held]
theorem zcStock : zc prog 48 = [.string ⟨#[]⟩, .string ⟨#[]⟩, .int .i64 0, .int .i64 0].toArray := by kernel_rfl
theorem aggStockT : aggO prog 48 = some true := by kernel_rfl
theorem szStockT : szO prog 48 = some 4 := by kernel_rfl
theorem lvStock {b : Nat} {w : World} {c : Array Value} {T : TypeId} {fr : Nat × Nat} (hb : Live w b) (hs : c.size = 4) {K : Value → Prop} :
    qG prog (do loadVar 48 (← asAddr (.pointer (some ⟨b, 0, none⟩)))) (setBlk w b (.cells c T fr)) K = K (.agg c) := loadVar_of aggStockT szStockT (heap_self hb) hs
theorem zcHold : zc prog 70 = [.int .i64 0, .string ⟨#[]⟩, .string ⟨#[]⟩, .int .i64 0, .int .i64 0, .int .i64 0].toArray := by kernel_rfl
theorem zcMove : zc prog 73 = [.int .i64 0, .string ⟨#[]⟩, .string ⟨#[]⟩, .int .i64 0, .int .i64 0, .int .i64 0].toArray := by kernel_rfl
theorem txt_state_spec {w : World} (n : Int) {K : KW} (hK : K (.string (str (stateT n))) w) : callG prog 65 #[.int .i64 n] w K := by
  refine Fn27_call ?_
  unfold stateT at hK
  simp [-getElem?_pos, -Array.all_eq_true, -Array.getElem?_eq_getElem, -List.length_flatten, gz0, gz1, Fn27, Fn27_s0]
  have e : ∀ l : List UInt8, (⟨l.toArray⟩ : ByteArray) = str l := fun _ => rfl
  simp only [e]
  by_cases h0 : n = 0
  · simp_all
  by_cases h1 : n = 1
  · simp_all
  by_cases h2 : n = 2
  · simp_all
  simp_all
theorem txt_kind_spec {w : World} (n : Int) {K : KW} (hK : K (.string (str (kindT n))) w) : callG prog 67 #[.int .i64 n] w K := by
  refine Fn22_call ?_
  unfold kindT at hK
  simp [-getElem?_pos, -Array.all_eq_true, -Array.getElem?_eq_getElem, -List.length_flatten, gz0, gz1, Fn22, Fn22_s0]
  have e : ∀ l : List UInt8, (⟨l.toArray⟩ : ByteArray) = str l := fun _ => rfl
  simp only [e]
  by_cases h0 : n = 1
  · simp_all
  by_cases h1 : n = 3
  · simp_all
  by_cases h2 : n = 6
  · simp_all
  by_cases h3 : n = 7
  · simp_all
  simp_all
theorem reftxt_state_spec {w : World} (n : Int) {K : KW} (hK : K (.string (str (stateT n))) w) : callG prog 76 #[.int .i64 n] w K := by
  refine Fn86_call ?_
  unfold stateT at hK
  simp [-getElem?_pos, -Array.all_eq_true, -Array.getElem?_eq_getElem, -List.length_flatten, gz0, gz1, Fn86, Fn86_s0]
  have e : ∀ l : List UInt8, (⟨l.toArray⟩ : ByteArray) = str l := fun _ => rfl
  simp only [e]
  by_cases h0 : n = 0
  · simp_all
  by_cases h1 : n = 1
  · simp_all
  by_cases h2 : n = 2
  · simp_all
  simp_all
theorem reftxt_kind_spec {w : World} (n : Int) {K : KW} (hK : K (.string (str (kindT n))) w) : callG prog 78 #[.int .i64 n] w K := by
  refine Fn83_call ?_
  unfold kindT at hK
  simp [-getElem?_pos, -Array.all_eq_true, -Array.getElem?_eq_getElem, -List.length_flatten, gz0, gz1, Fn83, Fn83_s0]
  have e : ∀ l : List UInt8, (⟨l.toArray⟩ : ByteArray) = str l := fun _ => rfl
  simp only [e]
  by_cases h0 : n = 1
  · simp_all
  by_cases h1 : n = 3
  · simp_all
  by_cases h2 : n = 6
  · simp_all
  by_cases h3 : n = 7
  · simp_all
  simp_all
theorem HoldRow_spec {w : World} (h : HV) {K : KW} (hK : ∀ v w', Kp [] w w' → Rd w' v 3 ((rowH stateT h).map valV) → K v w') : callG prog 26 #[hA h] w K := by
  refine Fn16_call ?_
  unfold hA
  simp only [Fn16, Fn16_s0, newG_k, cells_agg]
  obtain ⟨w1, hw1⟩ := ex_w (w' := w.alloc (.cells #[.int .i64 h.id, .string (str h.sku), .string (str h.loc), .int .i64 h.q, .int .i64 h.st, .int .i64 h.due] 70))
  have hk1 : Kp [] w w1 := by rw [hw1]; exact kp_alloc
  have hb1 : w1.heap[w.heap.size]? = some (.cells #[.int .i64 h.id, .string (str h.sku), .string (str h.loc), .int .i64 h.q, .int .i64 h.st, .int .i64 h.due] 70) := by rw [hw1]; exact heap_new
  rw [← hw1]
  simp [-getElem?_pos, -Array.all_eq_true, -Array.getElem?_eq_getElem, -List.length_flatten, gz0, gz1, hb1]
  refine txt_state_spec _ ?_
  simp [-getElem?_pos, -Array.all_eq_true, -Array.getElem?_eq_getElem, -List.length_flatten, gz0, gz1, hb1, str_nil]
  refine ⟨fun h0 => ?_, fun h0 => ?_⟩
  · refine hK _ w1 hk1 ?_
    unfold rowH
    rw [if_pos h0]
    exact rd_nil
  have hrow : rowH stateT h = [numV h.id, textV h.sku, textV h.loc, numV h.q, textV (stateT h.st), someV h.due] := by unfold rowH; rw [if_neg h0]
  refine num_spec _ fun w3 hk3 => ?_
  have hb3 := hk3.get (show w1.drew.heap[w.heap.size]? = _ from hb1) (by simp)
  simp [-getElem?_pos, -Array.all_eq_true, -Array.getElem?_eq_getElem, -List.length_flatten, gz0, gz1, hb3]
  refine text_spec _ fun w4 hk4 => ?_
  have hb4 := hk4.get hb3 (by simp)
  simp [-getElem?_pos, -Array.all_eq_true, -Array.getElem?_eq_getElem, -List.length_flatten, gz0, gz1, hb4]
  refine text_spec _ fun w5 hk5 => ?_
  have hb5 := hk5.get hb4 (by simp)
  simp [-getElem?_pos, -Array.all_eq_true, -Array.getElem?_eq_getElem, -List.length_flatten, gz0, gz1, hb5]
  refine num_spec _ fun w6 hk6 => ?_
  have hb6 := hk6.get hb5 (by simp)
  simp [-getElem?_pos, -Array.all_eq_true, -Array.getElem?_eq_getElem, -List.length_flatten, gz0, gz1, hb6]
  refine txt_state_spec _ ?_
  simp [-getElem?_pos, -Array.all_eq_true, -Array.getElem?_eq_getElem, -List.length_flatten, gz0, gz1, hb6]
  refine text_spec _ fun w7 hk7 => ?_
  have hb7 := hk7.get hb6 (by simp)
  simp [-getElem?_pos, -Array.all_eq_true, -Array.getElem?_eq_getElem, -List.length_flatten, gz0, gz1, hb7]
  refine some_spec _ fun w8 hk8 => ?_
  have hk08 := ((((((hk1.trans' kp_drew).trans' hk3).trans' hk4).trans' hk5).trans' hk6).trans' hk7).trans' hk8
  refine bsl_rows (n := 3) (len := 6) (xs := [valA (numV h.id), valA (textV h.sku), valA (textV h.loc), valA (numV h.q), valA (textV (stateT h.st)), valA (someV h.due)]) (rows := (rowH stateT h).map valV) (by omega) rfl (by rw [hrow]; rfl) (by rw [hrow]; simp [valV]) (by omega) fun v wa ha => ?_
  refine row_spec ?_
  exact hK v wa (hk08.trans' ha.kp) ha.rd
theorem MoveRow_spec {w : World} (h : HV) {K : KW} (hK : ∀ v w', Kp [] w w' → Rd w' v 3 ((rowH kindT h).map valV) → K v w') : callG prog 27 #[hA h] w K := by
  refine Fn17_call ?_
  unfold hA
  simp only [Fn17, Fn17_s0, newG_k, cells_agg]
  obtain ⟨w1, hw1⟩ := ex_w (w' := w.alloc (.cells #[.int .i64 h.id, .string (str h.sku), .string (str h.loc), .int .i64 h.q, .int .i64 h.st, .int .i64 h.due] 73))
  have hk1 : Kp [] w w1 := by rw [hw1]; exact kp_alloc
  have hb1 : w1.heap[w.heap.size]? = some (.cells #[.int .i64 h.id, .string (str h.sku), .string (str h.loc), .int .i64 h.q, .int .i64 h.st, .int .i64 h.due] 73) := by rw [hw1]; exact heap_new
  rw [← hw1]
  simp [-getElem?_pos, -Array.all_eq_true, -Array.getElem?_eq_getElem, -List.length_flatten, gz0, gz1, hb1]
  refine txt_kind_spec _ ?_
  simp [-getElem?_pos, -Array.all_eq_true, -Array.getElem?_eq_getElem, -List.length_flatten, gz0, gz1, hb1, str_nil]
  refine ⟨fun h0 => ?_, fun h0 => ?_⟩
  · refine hK _ w1 hk1 ?_
    unfold rowH
    rw [if_pos h0]
    exact rd_nil
  have hrow : rowH kindT h = [numV h.id, textV h.sku, textV h.loc, numV h.q, textV (kindT h.st), someV h.due] := by unfold rowH; rw [if_neg h0]
  refine num_spec _ fun w3 hk3 => ?_
  have hb3 := hk3.get (show w1.drew.heap[w.heap.size]? = _ from hb1) (by simp)
  simp [-getElem?_pos, -Array.all_eq_true, -Array.getElem?_eq_getElem, -List.length_flatten, gz0, gz1, hb3]
  refine text_spec _ fun w4 hk4 => ?_
  have hb4 := hk4.get hb3 (by simp)
  simp [-getElem?_pos, -Array.all_eq_true, -Array.getElem?_eq_getElem, -List.length_flatten, gz0, gz1, hb4]
  refine text_spec _ fun w5 hk5 => ?_
  have hb5 := hk5.get hb4 (by simp)
  simp [-getElem?_pos, -Array.all_eq_true, -Array.getElem?_eq_getElem, -List.length_flatten, gz0, gz1, hb5]
  refine num_spec _ fun w6 hk6 => ?_
  have hb6 := hk6.get hb5 (by simp)
  simp [-getElem?_pos, -Array.all_eq_true, -Array.getElem?_eq_getElem, -List.length_flatten, gz0, gz1, hb6]
  refine txt_kind_spec _ ?_
  simp [-getElem?_pos, -Array.all_eq_true, -Array.getElem?_eq_getElem, -List.length_flatten, gz0, gz1, hb6]
  refine text_spec _ fun w7 hk7 => ?_
  have hb7 := hk7.get hb6 (by simp)
  simp [-getElem?_pos, -Array.all_eq_true, -Array.getElem?_eq_getElem, -List.length_flatten, gz0, gz1, hb7]
  refine some_spec _ fun w8 hk8 => ?_
  have hk08 := ((((((hk1.trans' kp_drew).trans' hk3).trans' hk4).trans' hk5).trans' hk6).trans' hk7).trans' hk8
  refine bsl_rows (n := 3) (len := 6) (xs := [valA (numV h.id), valA (textV h.sku), valA (textV h.loc), valA (numV h.q), valA (textV (kindT h.st)), valA (someV h.due)]) (rows := (rowH kindT h).map valV) (by omega) rfl (by rw [hrow]; rfl) (by rw [hrow]; simp [valV]) (by omega) fun v wa ha => ?_
  refine row_spec ?_
  exact hK v wa (hk08.trans' ha.kp) ha.rd
theorem StockRow_spec {w : World} (s : SV) {K : KW} (hK : ∀ v w', Kp [] w w' → Rd w' v 3 ((rowS s).map valV) → K v w') : callG prog 25 #[sA s] w K := by
  refine Fn19_call ?_
  unfold sA
  simp only [Fn19, Fn19_s0, newG_k, cells_agg]
  obtain ⟨w1, hw1⟩ := ex_w (w' := w.alloc (.cells #[.string (str s.sku), .string (str s.loc), .int .i64 s.hand, .int .i64 s.held] 48))
  have hk1 : Kp [] w w1 := by rw [hw1]; exact kp_alloc
  have hb1 : w1.heap[w.heap.size]? = some (.cells #[.string (str s.sku), .string (str s.loc), .int .i64 s.hand, .int .i64 s.held] 48) := by rw [hw1]; exact heap_new
  rw [← hw1]
  simp [-getElem?_pos, -Array.all_eq_true, -Array.getElem?_eq_getElem, -List.length_flatten, gz0, gz1, hb1]
  refine text_spec _ fun w4 hk4 => ?_
  have hb4 := hk4.get (show w1.drew.heap[w.heap.size]? = _ from hb1) (by simp)
  simp [-getElem?_pos, -Array.all_eq_true, -Array.getElem?_eq_getElem, -List.length_flatten, gz0, gz1, hb4]
  refine text_spec _ fun w5 hk5 => ?_
  have hb5 := hk5.get hb4 (by simp)
  simp [-getElem?_pos, -Array.all_eq_true, -Array.getElem?_eq_getElem, -List.length_flatten, gz0, gz1, hb5]
  refine num_spec _ fun w6 hk6 => ?_
  have hb6 := hk6.get hb5 (by simp)
  simp [-getElem?_pos, -Array.all_eq_true, -Array.getElem?_eq_getElem, -List.length_flatten, gz0, gz1, hb6]
  refine num_spec _ fun w7 hk7 => ?_
  have hk07 := ((((hk1.trans' kp_drew).trans' hk4).trans' hk5).trans' hk6).trans' hk7
  refine bsl_rows (n := 3) (len := 4) (xs := [valA (textV s.sku), valA (textV s.loc), valA (numV s.hand), valA (numV s.held)]) (rows := (rowS s).map valV) (by omega) rfl rfl (by simp [rowS, valV]) (by omega) fun v wa ha => ?_
  refine row_spec ?_
  exact hK v wa (hk07.trans' ha.kp) ha.rd
theorem refHoldRow_spec {w : World} (h : HV) {K : KW} (hK : ∀ v w', Kp [] w w' → Rd w' v 3 ((rowH stateT h).map valV) → K v w') : callG prog 31 #[hA h] w K := by
  refine Fn79_call ?_
  unfold hA
  simp only [Fn79, Fn79_s0, newG_k, cells_agg]
  obtain ⟨w1, hw1⟩ := ex_w (w' := w.alloc (.cells #[.int .i64 h.id, .string (str h.sku), .string (str h.loc), .int .i64 h.q, .int .i64 h.st, .int .i64 h.due] 70))
  have hk1 : Kp [] w w1 := by rw [hw1]; exact kp_alloc
  have hb1 : w1.heap[w.heap.size]? = some (.cells #[.int .i64 h.id, .string (str h.sku), .string (str h.loc), .int .i64 h.q, .int .i64 h.st, .int .i64 h.due] 70) := by rw [hw1]; exact heap_new
  rw [← hw1]
  simp [-getElem?_pos, -Array.all_eq_true, -Array.getElem?_eq_getElem, -List.length_flatten, gz0, gz1, hb1]
  refine reftxt_state_spec _ ?_
  simp [-getElem?_pos, -Array.all_eq_true, -Array.getElem?_eq_getElem, -List.length_flatten, gz0, gz1, hb1, str_nil]
  refine ⟨fun h0 => ?_, fun h0 => ?_⟩
  · refine hK _ w1 hk1 ?_
    unfold rowH
    rw [if_pos h0]
    exact rd_nil
  have hrow : rowH stateT h = [numV h.id, textV h.sku, textV h.loc, numV h.q, textV (stateT h.st), someV h.due] := by unfold rowH; rw [if_neg h0]
  refine refNum_spec _ fun w3 hk3 => ?_
  have hb3 := hk3.get (show w1.drew.heap[w.heap.size]? = _ from hb1) (by simp)
  simp [-getElem?_pos, -Array.all_eq_true, -Array.getElem?_eq_getElem, -List.length_flatten, gz0, gz1, hb3]
  refine refText_spec _ fun w4 hk4 => ?_
  have hb4 := hk4.get hb3 (by simp)
  simp [-getElem?_pos, -Array.all_eq_true, -Array.getElem?_eq_getElem, -List.length_flatten, gz0, gz1, hb4]
  refine refText_spec _ fun w5 hk5 => ?_
  have hb5 := hk5.get hb4 (by simp)
  simp [-getElem?_pos, -Array.all_eq_true, -Array.getElem?_eq_getElem, -List.length_flatten, gz0, gz1, hb5]
  refine refNum_spec _ fun w6 hk6 => ?_
  have hb6 := hk6.get hb5 (by simp)
  simp [-getElem?_pos, -Array.all_eq_true, -Array.getElem?_eq_getElem, -List.length_flatten, gz0, gz1, hb6]
  refine reftxt_state_spec _ ?_
  simp [-getElem?_pos, -Array.all_eq_true, -Array.getElem?_eq_getElem, -List.length_flatten, gz0, gz1, hb6]
  refine refText_spec _ fun w7 hk7 => ?_
  have hb7 := hk7.get hb6 (by simp)
  simp [-getElem?_pos, -Array.all_eq_true, -Array.getElem?_eq_getElem, -List.length_flatten, gz0, gz1, hb7]
  refine refSome_spec _ fun w8 hk8 => ?_
  have hk08 := ((((((hk1.trans' kp_drew).trans' hk3).trans' hk4).trans' hk5).trans' hk6).trans' hk7).trans' hk8
  refine bsl_rows (n := 3) (len := 6) (xs := [valA (numV h.id), valA (textV h.sku), valA (textV h.loc), valA (numV h.q), valA (textV (stateT h.st)), valA (someV h.due)]) (rows := (rowH stateT h).map valV) (by omega) rfl (by rw [hrow]; rfl) (by rw [hrow]; simp [valV]) (by omega) fun v wa ha => ?_
  exact hK v wa (hk08.trans' ha.kp) ha.rd
theorem refMoveRow_spec {w : World} (h : HV) {K : KW} (hK : ∀ v w', Kp [] w w' → Rd w' v 3 ((rowH kindT h).map valV) → K v w') : callG prog 32 #[hA h] w K := by
  refine Fn80_call ?_
  unfold hA
  simp only [Fn80, Fn80_s0, newG_k, cells_agg]
  obtain ⟨w1, hw1⟩ := ex_w (w' := w.alloc (.cells #[.int .i64 h.id, .string (str h.sku), .string (str h.loc), .int .i64 h.q, .int .i64 h.st, .int .i64 h.due] 73))
  have hk1 : Kp [] w w1 := by rw [hw1]; exact kp_alloc
  have hb1 : w1.heap[w.heap.size]? = some (.cells #[.int .i64 h.id, .string (str h.sku), .string (str h.loc), .int .i64 h.q, .int .i64 h.st, .int .i64 h.due] 73) := by rw [hw1]; exact heap_new
  rw [← hw1]
  simp [-getElem?_pos, -Array.all_eq_true, -Array.getElem?_eq_getElem, -List.length_flatten, gz0, gz1, hb1]
  refine reftxt_kind_spec _ ?_
  simp [-getElem?_pos, -Array.all_eq_true, -Array.getElem?_eq_getElem, -List.length_flatten, gz0, gz1, hb1, str_nil]
  refine ⟨fun h0 => ?_, fun h0 => ?_⟩
  · refine hK _ w1 hk1 ?_
    unfold rowH
    rw [if_pos h0]
    exact rd_nil
  have hrow : rowH kindT h = [numV h.id, textV h.sku, textV h.loc, numV h.q, textV (kindT h.st), someV h.due] := by unfold rowH; rw [if_neg h0]
  refine refNum_spec _ fun w3 hk3 => ?_
  have hb3 := hk3.get (show w1.drew.heap[w.heap.size]? = _ from hb1) (by simp)
  simp [-getElem?_pos, -Array.all_eq_true, -Array.getElem?_eq_getElem, -List.length_flatten, gz0, gz1, hb3]
  refine refText_spec _ fun w4 hk4 => ?_
  have hb4 := hk4.get hb3 (by simp)
  simp [-getElem?_pos, -Array.all_eq_true, -Array.getElem?_eq_getElem, -List.length_flatten, gz0, gz1, hb4]
  refine refText_spec _ fun w5 hk5 => ?_
  have hb5 := hk5.get hb4 (by simp)
  simp [-getElem?_pos, -Array.all_eq_true, -Array.getElem?_eq_getElem, -List.length_flatten, gz0, gz1, hb5]
  refine refNum_spec _ fun w6 hk6 => ?_
  have hb6 := hk6.get hb5 (by simp)
  simp [-getElem?_pos, -Array.all_eq_true, -Array.getElem?_eq_getElem, -List.length_flatten, gz0, gz1, hb6]
  refine reftxt_kind_spec _ ?_
  simp [-getElem?_pos, -Array.all_eq_true, -Array.getElem?_eq_getElem, -List.length_flatten, gz0, gz1, hb6]
  refine refText_spec _ fun w7 hk7 => ?_
  have hb7 := hk7.get hb6 (by simp)
  simp [-getElem?_pos, -Array.all_eq_true, -Array.getElem?_eq_getElem, -List.length_flatten, gz0, gz1, hb7]
  refine refSome_spec _ fun w8 hk8 => ?_
  have hk08 := ((((((hk1.trans' kp_drew).trans' hk3).trans' hk4).trans' hk5).trans' hk6).trans' hk7).trans' hk8
  refine bsl_rows (n := 3) (len := 6) (xs := [valA (numV h.id), valA (textV h.sku), valA (textV h.loc), valA (numV h.q), valA (textV (kindT h.st)), valA (someV h.due)]) (rows := (rowH kindT h).map valV) (by omega) rfl (by rw [hrow]; rfl) (by rw [hrow]; simp [valV]) (by omega) fun v wa ha => ?_
  exact hK v wa (hk08.trans' ha.kp) ha.rd
theorem refStockRow_spec {w : World} (s : SV) {K : KW} (hK : ∀ v w', Kp [] w w' → Rd w' v 3 ((rowS s).map valV) → K v w') : callG prog 30 #[sA s] w K := by
  refine Fn82_call ?_
  unfold sA
  simp only [Fn82, Fn82_s0, newG_k, cells_agg]
  obtain ⟨w1, hw1⟩ := ex_w (w' := w.alloc (.cells #[.string (str s.sku), .string (str s.loc), .int .i64 s.hand, .int .i64 s.held] 48))
  have hk1 : Kp [] w w1 := by rw [hw1]; exact kp_alloc
  have hb1 : w1.heap[w.heap.size]? = some (.cells #[.string (str s.sku), .string (str s.loc), .int .i64 s.hand, .int .i64 s.held] 48) := by rw [hw1]; exact heap_new
  rw [← hw1]
  simp [-getElem?_pos, -Array.all_eq_true, -Array.getElem?_eq_getElem, -List.length_flatten, gz0, gz1, hb1]
  refine refText_spec _ fun w4 hk4 => ?_
  have hb4 := hk4.get (show w1.drew.heap[w.heap.size]? = _ from hb1) (by simp)
  simp [-getElem?_pos, -Array.all_eq_true, -Array.getElem?_eq_getElem, -List.length_flatten, gz0, gz1, hb4]
  refine refText_spec _ fun w5 hk5 => ?_
  have hb5 := hk5.get hb4 (by simp)
  simp [-getElem?_pos, -Array.all_eq_true, -Array.getElem?_eq_getElem, -List.length_flatten, gz0, gz1, hb5]
  refine refNum_spec _ fun w6 hk6 => ?_
  have hb6 := hk6.get hb5 (by simp)
  simp [-getElem?_pos, -Array.all_eq_true, -Array.getElem?_eq_getElem, -List.length_flatten, gz0, gz1, hb6]
  refine refNum_spec _ fun w7 hk7 => ?_
  have hk07 := ((((hk1.trans' kp_drew).trans' hk4).trans' hk5).trans' hk6).trans' hk7
  refine bsl_rows (n := 3) (len := 4) (xs := [valA (textV s.sku), valA (textV s.loc), valA (numV s.hand), valA (numV s.held)]) (rows := (rowS s).map valV) (by omega) rfl rfl (by simp [rowS, valV]) (by omega) fun v wa ha => ?_
  exact hK v wa (hk07.trans' ha.kp) ha.rd
end Go.Proofs

set_option linter.unusedVariables false
set_option linter.unusedSimpArgs false
namespace Go.Proofs
open Go Go.Q
open Tryz (prog)
theorem boxG {z c : Array Value} {T : TypeId} {k : Nat} {w : World} {K : KW} (hz : z.size = k) (hc : c.size = k) (ho : c.all (fun a => one a) 0 k = true)
    (h : ∀ b w1, w.heap.size ≤ b → w1.heap[b]? = some (.cells c T) → Kp [] w w1 → K (.pointer (some ⟨b, 0, none⟩)) w1) : newG z T w fun p w => stn k p (.agg c) w fun w => K p w := by
  simp [-getElem?_pos, -Array.all_eq_true, -Array.getElem?_eq_getElem, -List.length_flatten, gz0, gz1, heap_new, hz, hc]
  refine ⟨ho, ?_⟩
  rw [splice_all (by omega)]
  exact h _ _ (Nat.le_refl _) heap_new kp_alloc
theorem ldAll {b k : Nat} {c : Array Value} {T : TypeId} {w : World} (h : w.heap[b]? = some (.cells c T)) (hc : c.size = k) {K : Value → Prop} : ldn k (.pointer (some ⟨b, 0, none⟩)) w K = K (.agg c) := by
  simp [-getElem?_pos, -Array.all_eq_true, -Array.getElem?_eq_getElem, -List.length_flatten, gz0, gz1, h, hc]
  subst hc
  rw [Array.extract_size]
def hC (h : HV) : List Value := [.int .i64 h.id, .string (str h.sku), .string (str h.loc), .int .i64 h.q, .int .i64 h.st, .int .i64 h.due]
def sC (s : SV) : List Value := [.string (str s.sku), .string (str s.loc), .int .i64 s.hand, .int .i64 s.held]
section
variable {w : World} {xo yo : Operand} {K : Value → Prop}
end
theorem boxOp {z : Array Value} {o : OpV} {w : World} {K : KW} (hz : z.size = 7)
    (h : ∀ b w1, w.heap.size ≤ b → w1.heap[b]? = some (.cells (opC o).toArray 42) → Kp [] w w1 → K (.pointer (some ⟨b, 0, none⟩)) w1) : newG z 42 w fun p w => stn 7 p (opA o) w fun w => K p w :=
  boxG hz rfl (by simp [one]) h
theorem ldOp {b : Nat} {o : OpV} {w : World} (h : w.heap[b]? = some (.cells (opC o).toArray 42)) {K : Value → Prop} : ldn 7 (.pointer (some ⟨b, 0, none⟩)) w K = K (opA o) := ldAll h rfl
theorem boxHold {z : Array Value} {o : HV} {w : World} {K : KW} (hz : z.size = 6)
    (h : ∀ b w1, w.heap.size ≤ b → w1.heap[b]? = some (.cells (hC o).toArray 70) → Kp [] w w1 → K (.pointer (some ⟨b, 0, none⟩)) w1) : newG z 70 w fun p w => stn 6 p (hA o) w fun w => K p w :=
  boxG hz rfl (by simp [one]) h
theorem ldHold {b : Nat} {o : HV} {w : World} {T : TypeId} (h : w.heap[b]? = some (.cells (hC o).toArray T)) {K : Value → Prop} : ldn 6 (.pointer (some ⟨b, 0, none⟩)) w K = K (hA o) := ldAll h rfl
theorem boxMove {z : Array Value} {o : HV} {w : World} {K : KW} (hz : z.size = 6)
    (h : ∀ b w1, w.heap.size ≤ b → w1.heap[b]? = some (.cells (hC o).toArray 73) → Kp [] w w1 → K (.pointer (some ⟨b, 0, none⟩)) w1) : newG z 73 w fun p w => stn 6 p (hA o) w fun w => K p w :=
  boxG hz rfl (by simp [one]) h
theorem boxStock {z : Array Value} {o : SV} {w : World} {K : KW} (hz : z.size = 4)
    (h : ∀ b w1, w.heap.size ≤ b → w1.heap[b]? = some (.cells (sC o).toArray 48) → Kp [] w w1 → K (.pointer (some ⟨b, 0, none⟩)) w1) : newG z 48 w fun p w => stn 4 p (sA o) w fun w => K p w :=
  boxG hz rfl (by simp [one]) h
theorem ldStock {b : Nat} {o : SV} {w : World} {T : TypeId} (h : w.heap[b]? = some (.cells (sC o).toArray T)) {K : Value → Prop} : ldn 4 (.pointer (some ⟨b, 0, none⟩)) w K = K (sA o) := ldAll h rfl
theorem argBox {cs : List Value} {T : TypeId} {w : World} {K : KW} (h : ∀ b w1, w.heap.size ≤ b → w1.heap[b]? = some (.cells cs.toArray T) → Kp [] w w1 → K (.pointer (some ⟨b, 0, none⟩)) w1) :
    newG (Value.cells (.agg cs.toArray)) T w K := h _ _ (Nat.le_refl _) heap_new kp_alloc
end Go.Proofs

set_option linter.unusedVariables false
set_option linter.unusedSimpArgs false
namespace Go.Proofs
open Go Go.Q Tryz
set_option maxRecDepth 100000
def Fn71_s0 (R : KW) (x4 x5 : Value) (w : World) : Prop :=
 cvI .i64 x5 fun t32 =>
 qG prog (bq .shr 3 (.tmp 34) (.const (.int .u64 63)) t32 (.int .u64 63)) w fun t35 =>
 cvI .u64 t35 fun t36 =>
 qG prog (bq .eql 146 (.tmp 33) (.tmp 36) x4 t36) w fun t37 =>
 bV t37
 (R (.tuple #[t32, (.int .i64 0)]) w)
 (R (.tuple #[(.int .i64 0), (.int .i64 10)]) w)
theorem Fn71_s0_eq (R : KW) : ∀ e w, liK 39 (sbK f56 [1, 1, 1]) (fiK f56 R) e w = Fn71_s0 R (e 4) (e 5) w := fun e w => by kernel_rfl
def Fn71_b1 (R : KW) (N1 : KL) (x4 x5 x10 x11 x12 : Value) (w : World) : Prop :=
 qG prog (bq .lss 3 (.tmp 12) (.tmp 11) x12 x11) w fun t13 =>
 bV t13
 (ia 1 x10 x12 fun t14 =>
 ld1 t14 w fun t15 =>
 cvI .u64 t15 fun t19 =>
 nG prog (callFunc 100 #[x5, t19, (.int .u64 0)]) w fun t20 w =>
 qG prog (Instr.extract t20 0) w fun t21 =>
 qG prog (Instr.extract t20 1) w fun t22 =>
 qG prog (bq .shr 3 (.tmp 24) (.const (.int .u64 63)) t15 (.int .u64 63)) w fun t25 =>
 cvI .u64 t25 fun t26 =>
 qG prog (bq .add 146 (.tmp 26) (.tmp 27) t26 t22) w fun t28 =>
 qG prog (bq .add 146 (.tmp 23) (.tmp 28) x4 t28) w fun t29 =>
 qG prog (bq .add 3 (.tmp 12) (.const (.int .i64 1)) x12 (.int .i64 1)) w fun t30 =>
 N1 [t29, t21, x10, x11, t30] w)
 (Fn71_s0 R x4 x5 w)
theorem Fn71_b1_eq (R : KW) (N1 : KL) : ∀ e w, liK 39 (sbK f56 [1, 1, 0, 1, 0, 0]) (seqK (fun e w => N1 [e 4, e 5, e 10, e 11, e 12] w) (blockK 0 (seqK (fun e w => Fn71_s0 R (e 4) (e 5) w) (fiK f56 R)))) e w = Fn71_b1 R N1 (e 4) (e 5) (e 10) (e 11) (e 12) w := fun e w => by kernel_rfl
def Fn71_L2F (R : KW) (N1 : KL) (xs : List Value) (w : World) : Prop :=
 match xs with
 | [x4, x5, x10, x11, x12] => Fn71_b1 R N1 x4 x5 x10 x11 x12 w
 | _ => False
def Fn71_L2 (R : KW) (x4 x5 x10 x11 x12 : Value) (w : World) : Prop :=
 ∃ m, loopV (Fn71_L2F R) m [x4, x5, x10, x11, x12] w
theorem Fn71_L2_eq (R : KW) : ∀ e w, liK 39 (sbK f56 [1, 1, 0, 1, 0]) (blockK 0 (seqK (fun e w => Fn71_s0 R (e 4) (e 5) w) (fiK f56 R))) e w = Fn71_L2 R (e 4) (e 5) (e 10) (e 11) (e 12) w := loop_seg (F := Fn71_L2F R) (sel := fun e => [e 4, e 5, e 10, e 11, e 12]) fun N1 => (Fn71_b1_eq R N1)
def Fn71_s3 (R : KW) (x0 x4 x5 : Value) (w : World) : Prop :=
 lenL x0 fun t11 =>
 Fn71_L2 R x4 x5 x0 t11 (.int .i64 0) w
theorem Fn71_s3_eq (R : KW) : ∀ e w, liK 39 (sbK f56 [1, 1, 0]) (seqK (fun e w => Fn71_s0 R (e 4) (e 5) w) (fiK f56 R)) e w = Fn71_s3 R (e 0) (e 4) (e 5) w :=
 segs_eq (l := [(sbK f56 [1, 1, 0, 0])]) (y := (sbK f56 [1, 1, 0, 1])) (Y := (fun e w => Fn71_L2 R (e 4) (e 5) (e 10) (e 11) (e 12) w)) (Fn71_L2_eq R) (fun e w => by kernel_rfl)
def Fn71_s4 (R : KW) (x0 : Value) (w : World) : Prop :=
 Fn71_s3 R x0 (.int .u64 0) (.int .u64 0) w
theorem Fn71_s4_eq (R : KW) : ∀ e w, liK 39 (bodyOf f56) (fiK f56 R) e w = Fn71_s4 R (e 0) w :=
 segs_eq (l := [(sbK f56 [0]), (sbK f56 [1, 0])]) (y := (sbK f56 [1, 1])) (Y := (fun e w => Fn71_s3 R (e 0) (e 4) (e 5) w)) (seq_seg (x := (sbK f56 [1, 1, 0])) (y := (sbK f56 [1, 1, 1])) (Fn71_s0_eq R) (Fn71_s3_eq R)) (fun e w => by kernel_rfl)
def Fn71 (R : KW) (x0 : Value) (w : World) : Prop := Fn71_s4 R x0 w
theorem Fn71_call {R : KW} {x0 : Value} {w : World} (h : Fn71 R x0 w) : callG prog 56 #[x0] w R :=
 calls_lift_eq mixed func56 (args := [x0]) rfl rfl rfl rfl ((Fn71_s4_eq R) (envOf [x0]) w) (by kernel_rfl) h
def Fn70_s0 (R : KW) (x0 x1 : Value) (w : World) : Prop :=
 qG prog (bq .sub 3 (.tmp 7) (.tmp 8) x0 x1) w fun t9 =>
 qG prog (bq .lss 3 (.tmp 10) (.const (.int .i64 0)) x0 (.int .i64 0)) w fun t11 =>
 qG prog (bq .lss 3 (.tmp 12) (.const (.int .i64 0)) x1 (.int .i64 0)) w fun t13 =>
 qG prog (bq .neq 4 (.tmp 11) (.tmp 13) t11 t13) w fun t14 =>
 bV t14
 (qG prog (bq .lss 3 (.tmp 16) (.const (.int .i64 0)) t9 (.int .i64 0)) w fun t17 =>
 qG prog (bq .lss 3 (.tmp 18) (.const (.int .i64 0)) x0 (.int .i64 0)) w fun t19 =>
 qG prog (bq .neq 4 (.tmp 17) (.tmp 19) t17 t19) w fun t20 =>
 bV t20
 (R (.tuple #[(.int .i64 0), (.int .i64 10)]) w)
 (R (.tuple #[t9, (.int .i64 0)]) w))
 (R (.tuple #[t9, (.int .i64 0)]) w)
theorem Fn70_s0_eq (R : KW) : ∀ e w, liK 23 (bodyOf f142) (fiK f142 R) e w = Fn70_s0 R (e 0) (e 1) w := fun e w => by kernel_rfl
def Fn70 (R : KW) (x0 x1 : Value) (w : World) : Prop := Fn70_s0 R x0 x1 w
theorem Fn70_call {R : KW} {x0 x1 : Value} {w : World} (h : Fn70 R x0 x1 w) : callG prog 142 #[x0, x1] w R :=
 calls_lift_eq mixed func142 (args := [x0, x1]) rfl rfl rfl rfl ((Fn70_s0_eq R) (envOf [x0, x1]) w) (by kernel_rfl) h
def Fn69_s0 (R : KW) (x0 x1 : Value) (w : World) : Prop :=
 qG prog (bq .add 3 (.tmp 7) (.tmp 8) x0 x1) w fun t9 =>
 qG prog (bq .lss 3 (.tmp 10) (.const (.int .i64 0)) x0 (.int .i64 0)) w fun t11 =>
 qG prog (bq .lss 3 (.tmp 12) (.const (.int .i64 0)) x1 (.int .i64 0)) w fun t13 =>
 qG prog (bq .eql 4 (.tmp 11) (.tmp 13) t11 t13) w fun t14 =>
 bV t14
 (qG prog (bq .lss 3 (.tmp 16) (.const (.int .i64 0)) t9 (.int .i64 0)) w fun t17 =>
 qG prog (bq .lss 3 (.tmp 18) (.const (.int .i64 0)) x0 (.int .i64 0)) w fun t19 =>
 qG prog (bq .neq 4 (.tmp 17) (.tmp 19) t17 t19) w fun t20 =>
 bV t20
 (R (.tuple #[(.int .i64 0), (.int .i64 10)]) w)
 (R (.tuple #[t9, (.int .i64 0)]) w))
 (R (.tuple #[t9, (.int .i64 0)]) w)
theorem Fn69_s0_eq (R : KW) : ∀ e w, liK 23 (bodyOf f143) (fiK f143 R) e w = Fn69_s0 R (e 0) (e 1) w := fun e w => by kernel_rfl
def Fn69 (R : KW) (x0 x1 : Value) (w : World) : Prop := Fn69_s0 R x0 x1 w
theorem Fn69_call {R : KW} {x0 x1 : Value} {w : World} (h : Fn69 R x0 x1 w) : callG prog 143 #[x0, x1] w R :=
 calls_lift_eq mixed func143 (args := [x0, x1]) rfl rfl rfl rfl ((Fn69_s0_eq R) (envOf [x0, x1]) w) (by kernel_rfl) h
def Fn74_s0 (R : KW) (x0 : Value) (w : World) : Prop :=
 newG (zc prog 173) 173 w fun t2 w =>
 qG prog (bq .shr 3 (.tmp 3) (.const (.int .u64 62)) x0 (.int .u64 62)) w fun t4 =>
 qG prog (bq .and 3 (.tmp 5) (.const (.int .i64 4611686018427387903)) x0 (.int .i64 4611686018427387903)) w fun t6 =>
 bld [(0, 1), (1, 1)] (zc prog 173) #[(0, t4), (1, t6)] fun t7 =>
 stn 2 t2 t7 w fun w =>
 qG prog (do loadVar 173 (← asAddr t2)) w fun r2 =>
 R r2 w
theorem Fn74_s0_eq (R : KW) : ∀ e w, liK 8 (bodyOf f123) (fiK f123 R) e w = Fn74_s0 R (e 0) w := fun e w => by kernel_rfl
def Fn74 (R : KW) (x0 : Value) (w : World) : Prop := Fn74_s0 R x0 w
theorem Fn74_call {R : KW} {x0 : Value} {w : World} (h : Fn74 R x0 w) : callG prog 123 #[x0] w R :=
 calls_lift_eq mixed func123 (args := [x0]) rfl rfl rfl rfl ((Fn74_s0_eq R) (envOf [x0]) w) (by kernel_rfl) h
def Fn75_s0 (R : KW) (x0 x1 : Value) (w : World) : Prop :=
 newG (Value.cells x0) 173 w fun t2 w =>
 newG (Value.cells x1) 173 w fun t3 w =>
 newG (zc prog 173) 173 w fun t4 w =>
 fa 1 t2 fun t6 =>
 ld1 t6 w fun t7 =>
 qG prog (bq .sub 3 (.tmp 7) (.const (.int .i64 4611686018427387904)) t7 (.int .i64 4611686018427387904)) w fun t8 =>
 fa 1 t3 fun t9 =>
 ld1 t9 w fun t10 =>
 qG prog (bq .add 3 (.tmp 8) (.tmp 10) t8 t10) w fun t11 =>
 qG prog (bq .geq 3 (.tmp 12) (.const (.int .i64 0)) t11 (.int .i64 0)) w fun t13 =>
 bV t13
 (fa 0 t2 fun t14 =>
 ld1 t14 w fun t15 =>
 fa 0 t3 fun t16 =>
 ld1 t16 w fun t17 =>
 qG prog (bq .add 3 (.tmp 15) (.tmp 17) t15 t17) w fun t18 =>
 qG prog (bq .add 3 (.tmp 18) (.const (.int .i64 1)) t18 (.int .i64 1)) w fun t19 =>
 bld [(0, 1), (1, 1)] (zc prog 173) #[(0, t19), (1, t11)] fun t21 =>
 stn 2 t4 t21 w fun w =>
 qG prog (do loadVar 173 (← asAddr t4)) w fun r4 =>
 R r4 w)
 (fa 0 t2 fun t22 =>
 ld1 t22 w fun t23 =>
 fa 0 t3 fun t24 =>
 ld1 t24 w fun t25 =>
 qG prog (bq .add 3 (.tmp 23) (.tmp 25) t23 t25) w fun t26 =>
 qG prog (bq .add 3 (.tmp 27) (.const (.int .i64 4611686018427387904)) t11 (.int .i64 4611686018427387904)) w fun t28 =>
 bld [(0, 1), (1, 1)] (zc prog 173) #[(0, t26), (1, t28)] fun t29 =>
 stn 2 t4 t29 w fun w =>
 qG prog (do loadVar 173 (← asAddr t4)) w fun r4_1 =>
 R r4_1 w)
theorem Fn75_s0_eq (R : KW) : ∀ e w, liK 30 (bodyOf f122) (fiK f122 R) e w = Fn75_s0 R (e 0) (e 1) w := fun e w => by kernel_rfl
def Fn75 (R : KW) (x0 x1 : Value) (w : World) : Prop := Fn75_s0 R x0 x1 w
theorem Fn75_call {R : KW} {x0 x1 : Value} {w : World} (h : Fn75 R x0 x1 w) : callG prog 122 #[x0, x1] w R :=
 calls_lift_eq mixed func122 (args := [x0, x1]) rfl rfl rfl rfl ((Fn75_s0_eq R) (envOf [x0, x1]) w) (by kernel_rfl) h
def Fn73_s0 (R : KW) (x0 : Value) (w : World) : Prop :=
 newG (Value.cells x0) 173 w fun t1 w =>
 fa 0 t1 fun t4 =>
 ld1 t4 w fun t5 =>
 qG prog (bq .lss 3 (.tmp 5) (.const (.int .i64 (-2))) t5 (.int .i64 (-2))) w fun t6 =>
 bV t6
 (R (.tuple #[(.int .i64 0), (.int .i64 10)]) w)
 (fa 0 t1 fun t8 =>
 ld1 t8 w fun t9 =>
 qG prog (bq .gtr 3 (.tmp 9) (.const (.int .i64 1)) t9 (.int .i64 1)) w fun t10 =>
 bV t10
 (R (.tuple #[(.int .i64 0), (.int .i64 10)]) w)
 (fa 0 t1 fun t12 =>
 ld1 t12 w fun t13 =>
 qG prog (bq .shl 3 (.tmp 13) (.const (.int .u64 62)) t13 (.int .u64 62)) w fun t14 =>
 fa 1 t1 fun t15 =>
 ld1 t15 w fun t16 =>
 qG prog (bq .or 3 (.tmp 14) (.tmp 16) t14 t16) w fun t17 =>
 R (.tuple #[t17, (.int .i64 0)]) w))
theorem Fn73_s0_eq (R : KW) : ∀ e w, liK 18 (bodyOf f124) (fiK f124 R) e w = Fn73_s0 R (e 0) w := fun e w => by kernel_rfl
def Fn73 (R : KW) (x0 : Value) (w : World) : Prop := Fn73_s0 R x0 w
theorem Fn73_call {R : KW} {x0 : Value} {w : World} (h : Fn73 R x0 w) : callG prog 124 #[x0] w R :=
 calls_lift_eq mixed func124 (args := [x0]) rfl rfl rfl rfl ((Fn73_s0_eq R) (envOf [x0]) w) (by kernel_rfl) h
def Fn72_s0 (R : KW) (x4 : Value) (w : World) : Prop :=
 ldn 2 x4 w fun t20 =>
 callG prog 124 #[t20] w fun t21 w =>
 qG prog (Instr.extract t21 0) w fun t22 =>
 qG prog (Instr.extract t21 1) w fun t23 =>
 R (.tuple #[t22, t23]) w
theorem Fn72_s0_eq (R : KW) : ∀ e w, liK 24 (sbK f102 [1, 1, 1]) (fiK f102 R) e w = Fn72_s0 R (e 4) w := fun e w => by kernel_rfl
def Fn72_b1 (R : KW) (N1 : KL) (x0 x4 x5 : Value) (w : World) : Prop :=
 lenL x0 fun t9 =>
 qG prog (bq .lss 3 (.tmp 7) (.tmp 9) x5 t9) w fun t10 =>
 bV t10
 (ldn 2 x4 (World.drew w) fun t13 =>
 ia 1 x0 x5 fun t16 =>
 ld1 t16 (World.drew w) fun t17 =>
 callG prog 123 #[t17] (World.drew w) fun t18 w =>
 ldn 2 x4 w (fun u => u = t13) ∧
 callG prog 122 #[t13, t18] w fun t19 w =>
 stn 2 x4 t19 w fun w =>
 qG prog (bq .add 3 (.tmp 11) (.const (.int .i64 1)) x5 (.int .i64 1)) w fun t12 =>
 N1 [x0, x4, t12] w)
 (Fn72_s0 R x4 w)
theorem Fn72_b1_eq (R : KW) (N1 : KL) : ∀ e w, liK 24 (sbK f102 [1, 1, 0, 1, 0, 0]) (seqK (fun e w => N1 [e 0, e 4, e 5] w) (blockK 0 (seqK (fun e w => Fn72_s0 R (e 4) w) (fiK f102 R)))) e w = Fn72_b1 R N1 (e 0) (e 4) (e 5) w := fun e w => by kernel_rfl
def Fn72_L2F (R : KW) (N1 : KL) (xs : List Value) (w : World) : Prop :=
 match xs with
 | [x0, x4, x5] => Fn72_b1 R N1 x0 x4 x5 w
 | _ => False
def Fn72_L2 (R : KW) (x0 x4 x5 : Value) (w : World) : Prop :=
 ∃ m, loopV (Fn72_L2F R) m [x0, x4, x5] w
theorem Fn72_L2_eq (R : KW) : ∀ e w, liK 24 (sbK f102 [1, 1, 0, 1, 0]) (blockK 0 (seqK (fun e w => Fn72_s0 R (e 4) w) (fiK f102 R))) e w = Fn72_L2 R (e 0) (e 4) (e 5) w := loop_seg (F := Fn72_L2F R) (sel := fun e => [e 0, e 4, e 5]) fun N1 => (Fn72_b1_eq R N1)
def Fn72_s3 (R : KW) (x0 x4 : Value) (w : World) : Prop :=
 Fn72_L2 R x0 x4 (.int .i64 0) w
theorem Fn72_s3_eq (R : KW) : ∀ e w, liK 24 (sbK f102 [1, 1, 0]) (seqK (fun e w => Fn72_s0 R (e 4) w) (fiK f102 R)) e w = Fn72_s3 R (e 0) (e 4) w :=
 segs_eq (l := [(sbK f102 [1, 1, 0, 0])]) (y := (sbK f102 [1, 1, 0, 1])) (Y := (fun e w => Fn72_L2 R (e 0) (e 4) (e 5) w)) (Fn72_L2_eq R) (fun e w => by kernel_rfl)
def Fn72_s4 (R : KW) (x0 : Value) (w : World) : Prop :=
 bld [(0, 1), (1, 1)] (zc prog 173) #[] fun t6 =>
 newG (zc prog 173) 173 w fun t4 w =>
 stn 2 t4 t6 w fun w =>
 Fn72_s3 R x0 t4 w
theorem Fn72_s4_eq (R : KW) : ∀ e w, liK 24 (bodyOf f102) (fiK f102 R) e w = Fn72_s4 R (e 0) w :=
 segs_eq (l := [(sbK f102 [0]), (sbK f102 [1, 0])]) (y := (sbK f102 [1, 1])) (Y := (fun e w => Fn72_s3 R (e 0) (e 4) w)) (seq_seg (x := (sbK f102 [1, 1, 0])) (y := (sbK f102 [1, 1, 1])) (Fn72_s0_eq R) (Fn72_s3_eq R)) (fun e w => by kernel_rfl)
def Fn72 (R : KW) (x0 : Value) (w : World) : Prop := Fn72_s4 R x0 w
theorem Fn72_call {R : KW} {x0 : Value} {w : World} (h : Fn72 R x0 w) : callG prog 102 #[x0] w R :=
 calls_lift_eq mixed func102 (args := [x0]) rfl rfl rfl rfl ((Fn72_s4_eq R) (envOf [x0]) w) (by kernel_rfl) h
end Go.Proofs

set_option linter.unusedVariables false
set_option linter.unusedSimpArgs false
namespace Go.Q
def lexL (a b : List UInt8) : Bool := Op.bytesLess a b
theorem lexL_nil (a : List UInt8) : lexL a [] = false := by cases a <;> rfl
theorem lexL_cons (a b : UInt8) (x y : List UInt8) : lexL (a :: x) (b :: y) = (decide (a < b) || (a == b && lexL x y)) := rfl
theorem lexL_irrefl : ∀ a : List UInt8, lexL a a = false := by
  intro a
  induction a with
  | nil => rfl
  | cons a x ih => rw [lexL_cons, ih]; simp
theorem lexL_trans : ∀ {a b c : List UInt8}, lexL a b = true → lexL b c = true → lexL a c = true := by
  intro a
  induction a with
  | nil =>
    intro b c h1 h2
    cases c with
    | nil => rw [lexL_nil] at h2; cases h2
    | cons c z => rfl
  | cons a x ih =>
    intro b c h1 h2
    cases b with
    | nil => rw [lexL_nil] at h1; cases h1
    | cons b y =>
      cases c with
      | nil => rw [lexL_nil] at h2; cases h2
      | cons c z =>
        rw [lexL_cons] at h1 h2 ⊢
        simp only [Bool.or_eq_true, decide_eq_true_eq, Bool.and_eq_true, beq_iff_eq] at h1 h2 ⊢
        rcases h1 with h1 | ⟨rfl, h1⟩ <;> rcases h2 with h2 | ⟨rfl, h2⟩
        · exact .inl (UInt8.lt_trans h1 h2)
        · exact .inl h1
        · exact .inl h2
        · exact .inr ⟨rfl, ih h1 h2⟩
theorem lexL_tri : ∀ {a b : List UInt8}, lexL a b = false → lexL b a = false → a = b := by
  intro a
  induction a with
  | nil =>
    intro b h1 h2
    cases b with
    | nil => rfl
    | cons b y => cases h1
  | cons a x ih =>
    intro b h1 h2
    cases b with
    | nil => cases h2
    | cons b y =>
      rw [lexL_cons] at h1 h2
      simp only [Bool.or_eq_false_iff, decide_eq_false_iff_not, Bool.and_eq_false_iff, beq_eq_false_iff_ne] at h1 h2
      have hab : a = b := by
        have g1 := UInt8.not_lt.1 h1.1
        have g2 := UInt8.not_lt.1 h2.1
        exact UInt8.le_antisymm g2 g1
      subst hab
      have e1 : lexL x y = false := by
        rcases h1.2 with h | h
        · exact absurd rfl h
        · exact h
      have e2 : lexL y x = false := by
        rcases h2.2 with h | h
        · exact absurd rfl h
        · exact h
      rw [ih e1 e2]
def ahead (a b : SV) : Bool := lexL a.sku b.sku || (decide (a.sku = b.sku) && lexL a.loc b.loc)
def atP (s : SV) (sku loc : List UInt8) : Bool := decide (s.sku = sku ∧ s.loc = loc)
theorem ahead_irrefl (a : SV) : ahead a a = false := by simp [ahead, lexL_irrefl]
theorem ahead_trans {a b c : SV} (h1 : ahead a b = true) (h2 : ahead b c = true) : ahead a c = true := by
  simp only [ahead, Bool.or_eq_true, Bool.and_eq_true, decide_eq_true_eq] at h1 h2 ⊢
  rcases h1 with h1 | ⟨e1, h1⟩ <;> rcases h2 with h2 | ⟨e2, h2⟩
  · exact .inl (lexL_trans h1 h2)
  · exact .inl (e2 ▸ h1)
  · exact .inl (e1 ▸ h2)
  · exact .inr ⟨e1.trans e2, lexL_trans h1 h2⟩
theorem ahead_tri {a b : SV} (h1 : ahead a b = false) (h2 : ahead b a = false) : a.sku = b.sku ∧ a.loc = b.loc := by
  simp only [ahead, Bool.or_eq_false_iff, Bool.and_eq_false_iff, decide_eq_false_iff_not] at h1 h2
  have e := lexL_tri h1.1 h2.1
  refine ⟨e, ?_⟩
  have g1 : lexL a.loc b.loc = false := by
    rcases h1.2 with h | h
    · exact absurd e h
    · exact h
  have g2 : lexL b.loc a.loc = false := by
    rcases h2.2 with h | h
    · exact absurd e.symm h
    · exact h
  exact lexL_tri g1 g2
theorem ahead_key {a b a' b' : SV} (h1 : a.sku = a'.sku) (h2 : a.loc = a'.loc) (h3 : b.sku = b'.sku) (h4 : b.loc = b'.loc) : ahead a b = ahead a' b' := by simp only [ahead, h1, h2, h3, h4]
def Sorted (l : List SV) : Prop := l.Pairwise fun a b => ahead a b = true
structure LV where
  st : List SV
  ho : List HV
  mo : List HV
  ops : Int
  deriving DecidableEq
def lZ : LV := ⟨[], [], [], 0⟩
def fits (n : Int) : Bool := decide (-9223372036854775808 ≤ n ∧ n ≤ 9223372036854775807)
def numO (n : Int) : Int × Int := if fits n = true then (n, 0) else (0, 10)
def findS (l : List SV) (sku loc : List UInt8) : SV := (l.find? fun s => atP s sku loc).getD ⟨sku, loc, 0, 0⟩
def putS : List SV → SV → List SV
  | [], s => [s]
  | x :: r, s => if ahead x s = true then x :: putS r s else if x.sku = s.sku ∧ x.loc = s.loc then s :: r else s :: x :: r
def w64i (n : Int) : Int := IntKind.i64.wrap n
def movedL (l : LV) (sku loc : List UInt8) (n kind hold : Int) : LV :=
  { l with st := putS l.st { findS l.st sku loc with hand := w64i ((findS l.st sku loc).hand + n) }, mo := l.mo ++ [⟨(l.mo.length + 1 : Nat), sku, loc, n, kind, hold⟩] }
def heldL (l : LV) (sku loc : List UInt8) (n : Int) : LV := { l with st := putS l.st { findS l.st sku loc with held := w64i ((findS l.st sku loc).held + n) } }
def stateL (l : LV) (k : Nat) (n : Int) : LV := { l with ho := l.ho.set k { l.ho.getD k hZ with st := n } }
def freeL (l : LV) (sku loc : List UInt8) : Int := (numO ((findS l.st sku loc).hand - (findS l.st sku loc).held)).1
def moreL (l : LV) (sku loc : List UInt8) (n : Int) : Int × Int := numO ((findS l.st sku loc).hand + n)
def holdAt (l : LV) (id : Int) : HV := l.ho.getD (id - 1).toNat hZ
def overL (l : LV) (o : OpV) : LV × Int :=
  if o.id > l.ho.length ∨ (holdAt l o.id).st ≠ 0 then (l, 71)
  else
    let h := holdAt l o.id
    let l1 := heldL l h.sku h.loc (w64i (-h.q))
    if o.k = 4 then (stateL l1 (o.id - 1).toNat 2, 0) else (movedL (stateL l1 (o.id - 1).toNat 1) h.sku h.loc (w64i (-h.q)) o.k h.id, 0)
def dueL (h : HV) (due : Int) : Bool := decide (h.st = 0 ∧ 0 < h.due ∧ h.due ≤ due)
def expireL (l : LV) (due : Int) (i : Nat) : Nat → LV
  | 0 => l
  | m + 1 =>
    let h := l.ho.getD i hZ
    expireL (if dueL h due = true then stateL (heldL l h.sku h.loc (w64i (-h.q))) i 2 else l) due (i + 1) m
def doesL (l : LV) (o : OpV) : LV × Int :=
  if o.k = 1 ∨ o.k = 7 then
    (if (moreL l o.sku o.loc o.q).2 ≠ 0 then (l, (moreL l o.sku o.loc o.q).2)
     else if (moreL l o.sku o.loc o.q).1 < (findS l.st o.sku o.loc).held then (l, 70) else (movedL l o.sku o.loc o.q o.k 0, 0))
  else if o.k = 2 then
    (if freeL l o.sku o.loc < o.q then (l, 70)
     else
      let l1 := heldL l o.sku o.loc o.q
      ({ l1 with ho := l1.ho ++ [⟨(l1.ho.length + 1 : Nat), o.sku, o.loc, o.q, 0, o.due⟩] }, 0))
  else if o.k = 5 then (expireL l o.due 0 l.ho.length, 0)
  else if o.k = 6 then
    (if freeL l o.sku o.loc < o.q then (l, 70)
     else if (moreL l o.sku o.to o.q).2 ≠ 0 then (l, (moreL l o.sku o.to o.q).2)
     else (movedL (movedL l o.sku o.loc (w64i (-o.q)) o.k 0) o.sku o.to o.q o.k 0, 0))
  else overL l o
def fullL (l : LV) : Bool := decide (4096 < l.st.length ∨ 4096 < l.ho.length ∨ 4096 < l.mo.length)
def stepL (l : LV) (o : OpV) : LV × Int :=
  if o.ok = false then (l, 1)
  else if (doesL l o).2 ≠ 0 then (l, (doesL l o).2)
  else if fullL (doesL l o).1 = true ∨ 4611686018427387904 ≤ l.ops then (l, 2)
  else ({ (doesL l o).1 with ops := l.ops + 1 }, 0)
def activeQ (ho : List HV) (sku loc : List UInt8) : Int := (ho.map fun h => if h.sku = sku ∧ h.loc = loc ∧ h.st = 0 then h.q else 0).sum
def movedQ (mo : List HV) (sku loc : List UInt8) : Int := (mo.map fun m => if m.sku = sku ∧ m.loc = loc then m.q else 0).sum
def stockOk (l : LV) (s : SV) : Bool := nameOk s.sku && nameOk s.loc && decide (0 ≤ s.held ∧ s.held ≤ s.hand) && fits s.hand && decide (s.held = activeQ l.ho s.sku s.loc ∧ s.hand = movedQ l.mo s.sku s.loc)
def knownL (l : LV) (sku loc : List UInt8) : Bool := l.st.any fun s => atP s sku loc
def holdOk (l : LV) (k : Nat) (h : HV) : Bool :=
  decide (h.id = (k + 1 : Nat)) && nameOk h.sku && nameOk h.loc && decide (1 ≤ h.q ∧ 0 ≤ h.st ∧ h.st ≤ 2 ∧ 0 ≤ h.due) && (decide (h.st ≠ 0) || knownL l h.sku h.loc)
def moveOk (l : LV) (k : Nat) (m : HV) : Bool :=
  decide (m.id = (k + 1 : Nat)) && nameOk m.sku && nameOk m.loc && fits m.q && decide (m.q ≠ 0) && decide (m.st = 1 ∨ m.st = 3 ∨ m.st = 6 ∨ m.st = 7) && decide (0 ≤ m.due) && (decide (m.due ≠ 0) == decide (m.st = 3)) && knownL l m.sku m.loc
structure May (l : LV) : Prop where
  ops : 0 ≤ l.ops
  few : fullL l = false
  sorted : Sorted l.st
  stocks : ∀ s ∈ l.st, stockOk l s = true
  holds : ∀ k (h : k < l.ho.length), holdOk l k l.ho[k] = true
  moves : ∀ k (h : k < l.mo.length), moveOk l k l.mo[k] = true
theorem may_z : May lZ := ⟨by decide, by decide, List.Pairwise.nil, by simp [lZ], by simp [lZ], by simp [lZ]⟩
theorem findS_key (l : List SV) (sku loc : List UInt8) : (findS l sku loc).sku = sku ∧ (findS l sku loc).loc = loc := by
  unfold findS
  cases h : l.find? fun s => atP s sku loc with
  | none => exact ⟨rfl, rfl⟩
  | some s =>
    have := List.find?_some h
    simpa [atP] using this
theorem putS_mem {l : List SV} {s x : SV} (h : x ∈ putS l s) : x = s ∨ (x ∈ l) := by
  induction l with
  | nil => simp [putS] at h; exact .inl h
  | cons y r ih =>
    unfold putS at h
    split at h
    · rcases List.mem_cons.1 h with rfl | h
      · exact .inr (by simp)
      · rcases ih h with h | h
        · exact .inl h
        · exact .inr (by simp [h])
    · split at h
      · rcases List.mem_cons.1 h with rfl | h
        · exact .inl rfl
        · exact .inr (by simp [h])
      · rcases List.mem_cons.1 h with rfl | h
        · exact .inl rfl
        · exact .inr h
theorem putS_self (l : List SV) (s : SV) : s ∈ putS l s := by
  induction l with
  | nil => simp [putS]
  | cons y r ih =>
    unfold putS
    split
    · simp [ih]
    · split <;> simp
theorem putS_keep {l : List SV} {s x : SV} (h : x ∈ l) (hk : ¬(x.sku = s.sku ∧ x.loc = s.loc)) : x ∈ putS l s := by
  induction l with
  | nil => cases h
  | cons y r ih =>
    unfold putS
    rcases List.mem_cons.1 h with rfl | h
    · split
      · simp
      · first | (rw [if_neg hk]; simp) | simp
    · split
      · simp [ih h]
      · split
        · simp [h]
        · simp [h]
theorem putS_sorted {l : List SV} {s : SV} (h : Sorted l) : Sorted (putS l s) := by
  induction l with
  | nil => simp [putS, Sorted]
  | cons y r ih =>
    have hr := List.pairwise_cons.1 h
    unfold putS
    split
    · rename_i hy
      refine List.pairwise_cons.2 ⟨fun x hx => ?_, ih hr.2⟩
      rcases putS_mem hx with rfl | hx
      · exact hy
      · exact hr.1 x hx
    · rename_i hy
      have hy : ahead y s = false := by simpa using hy
      split
      · rename_i hk
        refine List.pairwise_cons.2 ⟨fun x hx => ?_, hr.2⟩
        have := hr.1 x hx
        rwa [ahead_key (b' := x) hk.1 hk.2 rfl rfl] at this
      · rename_i hk
        have hsy : ahead s y = true := by
          cases hc : ahead s y with
          | true => rfl
          | false => exact absurd (ahead_tri hy hc) hk
        refine List.pairwise_cons.2 ⟨fun x hx => ?_, h⟩
        rcases List.mem_cons.1 hx with rfl | hx
        · exact hsy
        · exact ahead_trans hsy (hr.1 x hx)
theorem sorted_uniq {l : List SV} (h : Sorted l) {a b : SV} (ha : a ∈ l) (hb : b ∈ l) (hk : a.sku = b.sku ∧ a.loc = b.loc) : a = b := by
  induction l with
  | nil => cases ha
  | cons y r ih =>
    have hr := List.pairwise_cons.1 h
    have ne : ∀ x ∈ r, ¬(y.sku = x.sku ∧ y.loc = x.loc) := fun x hx hk => by
      have := hr.1 x hx
      rw [ahead_key (a' := x) (b' := x) hk.1 hk.2 rfl rfl, ahead_irrefl] at this
      cases this
    rcases List.mem_cons.1 ha with rfl | ha <;> rcases List.mem_cons.1 hb with rfl | hb
    · rfl
    · exact absurd hk (ne b hb)
    · exact absurd ⟨hk.1.symm, hk.2.symm⟩ (ne a (by assumption))
    · exact ih hr.2 ha hb
theorem findS_of_mem {l : List SV} (h : Sorted l) {s : SV} (hs : s ∈ l) : findS l s.sku s.loc = s := by
  unfold findS
  cases hf : l.find? fun x => atP x s.sku s.loc with
  | none =>
    have := List.find?_eq_none.1 hf s hs
    simp [atP] at this
  | some x =>
    have h1 := List.mem_of_find?_eq_some hf
    have h2 := List.find?_some hf
    simp only [atP, decide_eq_true_eq] at h2
    exact sorted_uniq h h1 hs h2
theorem findS_none {l : List SV} {sku loc : List UInt8} (h : ∀ s ∈ l, ¬(s.sku = sku ∧ s.loc = loc)) : findS l sku loc = ⟨sku, loc, 0, 0⟩ := by
  unfold findS
  rw [List.find?_eq_none.2 (fun x hx => by simpa [atP] using h x hx)]
  rfl
theorem findS_put {l : List SV} (h : Sorted l) (s : SV) (sku loc : List UInt8) : findS (putS l s) sku loc = if s.sku = sku ∧ s.loc = loc then s else findS l sku loc := by
  by_cases hk : s.sku = sku ∧ s.loc = loc
  · rw [if_pos hk, ← hk.1, ← hk.2]
    exact findS_of_mem (putS_sorted h) (putS_self l s)
  · rw [if_neg hk]
    by_cases hx : ∃ x ∈ l, x.sku = sku ∧ x.loc = loc
    · obtain ⟨x, hx, h1, h2⟩ := hx
      have h3 : x ∈ putS l s := putS_keep hx (fun hh => hk ⟨hh.1.symm.trans h1, hh.2.symm.trans h2⟩)
      rw [← h1, ← h2, findS_of_mem h hx, findS_of_mem (putS_sorted h) h3]
    · rw [findS_none fun x hm hh => hx ⟨x, hm, hh⟩, findS_none]
      intro x hm hh
      rcases putS_mem hm with rfl | hm
      · exact hk hh
      · exact hx ⟨x, hm, hh⟩
theorem putS_put {l : List SV} {s t : SV} (hk : s.sku = t.sku ∧ s.loc = t.loc) : putS (putS l s) t = putS l t := by
  induction l with
  | nil => simp [putS, ahead_key hk.1 hk.2 rfl rfl, ahead_irrefl, hk]
  | cons y r ih =>
    have e : ahead y s = ahead y t := ahead_key rfl rfl hk.1 hk.2
    have e2 : ahead s t = false := by rw [ahead_key (a' := t) (b' := t) hk.1 hk.2 rfl rfl, ahead_irrefl]
    cases hc : ahead y t with
    | true => simp [putS, e, hc, ih]
    | false =>
      by_cases hy : y.sku = s.sku ∧ y.loc = s.loc
      · have hy' : y.sku = t.sku ∧ y.loc = t.loc := ⟨hy.1.trans hk.1, hy.2.trans hk.2⟩
        simp [putS, e, hc, hy, hy', e2, hk]
      · have hy' : ¬(y.sku = t.sku ∧ y.loc = t.loc) := fun h => hy ⟨h.1.trans hk.1.symm, h.2.trans hk.2.symm⟩
        simp [putS, e, hc, hy, hy', e2, hk]
theorem known_find {l : LV} {sku loc : List UInt8} : knownL l sku loc = true ↔ ∃ s ∈ l.st, s.sku = sku ∧ s.loc = loc := by simp [knownL, atP]
end Go.Q

set_option linter.unusedVariables false
set_option linter.unusedSimpArgs false
namespace Go.Q
abbrev Pl := List UInt8 → List UInt8 → Int
structure MayF (st : List SV) (H M : Pl) : Prop where
  sorted : Sorted st
  ok : ∀ s ∈ st, nameOk s.sku = true ∧ nameOk s.loc = true ∧ fits s.hand = true ∧ 0 ≤ s.held ∧ s.held ≤ s.hand ∧ s.held = H s.sku s.loc ∧ s.hand = M s.sku s.loc
  none : ∀ sku loc, (∀ s ∈ st, ¬(s.sku = sku ∧ s.loc = loc)) → H sku loc = 0 ∧ M sku loc = 0
theorem MayF.find {st : List SV} {H M : Pl} (h : MayF st H M) (sku loc : List UInt8) :
    (findS st sku loc).held = H sku loc ∧ (findS st sku loc).hand = M sku loc ∧ 0 ≤ (findS st sku loc).held ∧ (findS st sku loc).held ≤ (findS st sku loc).hand ∧ fits (findS st sku loc).hand = true := by
  by_cases hx : ∃ s ∈ st, s.sku = sku ∧ s.loc = loc
  · obtain ⟨s, hs, rfl, rfl⟩ := hx
    rw [findS_of_mem h.sorted hs]
    obtain ⟨_, _, h1, h2, h3, h4, h5⟩ := h.ok s hs
    exact ⟨h4, h5, h2, h3, h1⟩
  · have hx' : ∀ s ∈ st, ¬(s.sku = sku ∧ s.loc = loc) := fun s hs hk => hx ⟨s, hs, hk⟩
    rw [findS_none hx']
    have := h.none sku loc hx'
    exact ⟨this.1.symm, this.2.symm, Int.le_refl _, Int.le_refl _, rfl⟩
def updP (H : Pl) (sku loc : List UInt8) (n : Int) : Pl := fun a b => if sku = a ∧ loc = b then n else H a b
theorem MayF.put {st : List SV} {H M : Pl} (h : MayF st H M) (s : SV) (h1 : nameOk s.sku = true) (h2 : nameOk s.loc = true) (h3 : fits s.hand = true) (h4 : 0 ≤ s.held) (h5 : s.held ≤ s.hand) :
    MayF (putS st s) (updP H s.sku s.loc s.held) (updP M s.sku s.loc s.hand) := by
  refine ⟨putS_sorted h.sorted, fun x hx => ?_, fun sku loc hn => ?_⟩
  · by_cases hk : s.sku = x.sku ∧ s.loc = x.loc
    · have : x = s := sorted_uniq (putS_sorted h.sorted) hx (putS_self st s) ⟨hk.1.symm, hk.2.symm⟩
      subst this
      exact ⟨h1, h2, h3, h4, h5, by simp [updP], by simp [updP]⟩
    · rcases putS_mem hx with rfl | hx
      · exact absurd ⟨rfl, rfl⟩ hk
      · obtain ⟨g1, g2, g3, g4, g5, g6, g7⟩ := h.ok x hx
        exact ⟨g1, g2, g3, g4, g5, by rw [updP, if_neg hk]; exact g6, by rw [updP, if_neg hk]; exact g7⟩
  · have hk : ¬(s.sku = sku ∧ s.loc = loc) := hn s (putS_self st s)
    have := h.none sku loc fun x hx hxk => hn x (putS_keep hx fun hh => hk ⟨hh.1.symm.trans hxk.1, hh.2.symm.trans hxk.2⟩) hxk
    exact ⟨by rw [updP, if_neg hk]; exact this.1, by rw [updP, if_neg hk]; exact this.2⟩
theorem MayF.congr {st : List SV} {H M H' M' : Pl} (h : MayF st H M) (hH : ∀ a b, H a b = H' a b) (hM : ∀ a b, M a b = M' a b) : MayF st H' M' := by
  have e1 : H = H' := funext fun a => funext fun b => hH a b
  have e2 : M = M' := funext fun a => funext fun b => hM a b
  exact e1 ▸ e2 ▸ h
theorem fits_iff {n : Int} : fits n = true ↔ -9223372036854775808 ≤ n ∧ n ≤ 9223372036854775807 := by simp [fits]
theorem w64i_eq {n : Int} (h : fits n = true) : w64i n = n := by
  have := fits_iff.1 h
  exact wrap64 _ (by omega) (by omega)
theorem activeQ_app (ho : List HV) (h : HV) (a b : List UInt8) : activeQ (ho ++ [h]) a b = activeQ ho a b + (if h.sku = a ∧ h.loc = b ∧ h.st = 0 then h.q else 0) := by simp [activeQ]
theorem movedQ_app (mo : List HV) (m : HV) (a b : List UInt8) : movedQ (mo ++ [m]) a b = movedQ mo a b + (if m.sku = a ∧ m.loc = b then m.q else 0) := by simp [movedQ]
theorem sum_set {f : HV → Int} : ∀ {l : List HV} {k : Nat} {x : HV} (h : k < l.length), ((l.set k x).map f).sum = (l.map f).sum - f l[k] + f x := by
  intro l
  induction l with
  | nil => intro k x h; simp at h
  | cons y r ih =>
    intro k x h
    cases k with
    | zero => simp; omega
    | succ k =>
      have := ih (k := k) (x := x) (by simpa using h)
      simp only [List.set_cons_succ, List.map_cons, List.sum_cons, this, List.getElem_cons_succ]
      omega
theorem activeQ_set {ho : List HV} {k : Nat} (hk : k < ho.length) (h0 : ho[k].st = 0) {n : Int} (hn : n ≠ 0) (a b : List UInt8) :
    activeQ (ho.set k { ho[k] with st := n }) a b = activeQ ho a b - (if ho[k].sku = a ∧ ho[k].loc = b then ho[k].q else 0) := by
  unfold activeQ
  rw [sum_set hk]
  simp [h0, hn]
theorem sum_nonneg {f : HV → Int} : ∀ {l : List HV}, (∀ x ∈ l, 0 ≤ f x) → 0 ≤ (l.map f).sum := by
  intro l
  induction l with
  | nil => intro _; simp
  | cons y r ih =>
    intro h
    have h1 := h y (by simp)
    have h2 := ih fun x hx => h x (by simp [hx])
    simp only [List.map_cons, List.sum_cons]
    omega
theorem sum_ge {f : HV → Int} : ∀ {l : List HV}, (∀ x ∈ l, 0 ≤ f x) → ∀ x ∈ l, f x ≤ (l.map f).sum := by
  intro l
  induction l with
  | nil => intro _ x hx; cases hx
  | cons y r ih =>
    intro h x hx
    have h1 := h y (by simp)
    have h2 := sum_nonneg (f := f) fun x (hx : x ∈ r) => h x (by simp [hx])
    simp only [List.map_cons, List.sum_cons]
    rcases List.mem_cons.1 hx with rfl | hx
    · omega
    · have := ih (fun x hx => h x (by simp [hx])) x hx
      omega
theorem May.f {l : LV} (h : May l) : MayF l.st (activeQ l.ho) (movedQ l.mo) := by
  refine ⟨h.sorted, fun s hs => ?_, fun sku loc hn => ⟨?_, ?_⟩⟩
  · have := h.stocks s hs
    simp only [stockOk, Bool.and_eq_true, decide_eq_true_eq] at this
    obtain ⟨⟨⟨⟨h1, h2⟩, h3, h4⟩, h5⟩, h6, h7⟩ := this
    exact ⟨h1, h2, h5, h3, h4, h6, h7⟩
  · have : ∀ x ∈ l.ho, (if x.sku = sku ∧ x.loc = loc ∧ x.st = 0 then x.q else 0) = 0 := by
      intro x hx
      obtain ⟨k, hk, rfl⟩ := List.getElem_of_mem hx
      rw [if_neg]
      rintro ⟨h1, h2, h3⟩
      have := h.holds k hk
      simp only [holdOk, Bool.and_eq_true, Bool.or_eq_true, decide_eq_true_eq] at this
      rcases this.2 with h4 | h4
      · exact h4 h3
      · obtain ⟨s, hs, h5, h6⟩ := known_find.1 h4
        exact hn s hs ⟨h5.trans h1, h6.trans h2⟩
    unfold activeQ
    rw [List.map_congr_left this]
    generalize l.ho = z
    induction z with
    | nil => rfl
    | cons y r ih => simp at ih ⊢; exact ih
  · have : ∀ x ∈ l.mo, (if x.sku = sku ∧ x.loc = loc then x.q else 0) = 0 := by
      intro x hx
      obtain ⟨k, hk, rfl⟩ := List.getElem_of_mem hx
      rw [if_neg]
      rintro ⟨h1, h2⟩
      have := h.moves k hk
      simp only [moveOk, Bool.and_eq_true, decide_eq_true_eq] at this
      obtain ⟨s, hs, h5, h6⟩ := known_find.1 this.2
      exact hn s hs ⟨h5.trans h1, h6.trans h2⟩
    unfold movedQ
    rw [List.map_congr_left this]
    generalize l.mo = z
    induction z with
    | nil => rfl
    | cons y r ih => simp at ih ⊢; exact ih
structure Mst (l : LV) (H M : Pl) : Prop where
  f : MayF l.st H M
  holds : ∀ k (h : k < l.ho.length), holdOk l k l.ho[k] = true
  moves : ∀ k (h : k < l.mo.length), moveOk l k l.mo[k] = true
theorem May.m {l : LV} (h : May l) : Mst l (activeQ l.ho) (movedQ l.mo) := ⟨h.f, h.holds, h.moves⟩
theorem Mst.may {l : LV} (h : Mst l (activeQ l.ho) (movedQ l.mo)) (ho : 0 ≤ l.ops) (hf : fullL l = false) : May l := by
  refine ⟨ho, hf, h.f.sorted, fun s hs => ?_, h.holds, h.moves⟩
  obtain ⟨h1, h2, h3, h4, h5, h6, h7⟩ := h.f.ok s hs
  simp [stockOk, h1, h2, h3, h4, h5, ← h6, ← h7]
theorem known_put {l : LV} {s : SV} {sku loc : List UInt8} (h : knownL l sku loc = true) : knownL { l with st := putS l.st s } sku loc = true := by
  obtain ⟨x, hx, h1, h2⟩ := known_find.1 h
  by_cases hk : x.sku = s.sku ∧ x.loc = s.loc
  · exact known_find.2 ⟨s, putS_self _ _, hk.1.symm.trans h1, hk.2.symm.trans h2⟩
  · exact known_find.2 ⟨x, putS_keep hx hk, h1, h2⟩
theorem holdOk_put {l : LV} {s : SV} {k : Nat} {h : HV} (hh : holdOk l k h = true) : holdOk { l with st := putS l.st s } k h = true := by
  simp only [holdOk, Bool.and_eq_true, Bool.or_eq_true] at hh ⊢
  exact ⟨hh.1, hh.2.imp id known_put⟩
theorem moveOk_put {l : LV} {s : SV} {k : Nat} {h : HV} (hh : moveOk l k h = true) : moveOk { l with st := putS l.st s } k h = true := by
  simp only [moveOk, Bool.and_eq_true] at hh ⊢
  exact ⟨hh.1, known_put hh.2⟩
theorem Mst.put {l : LV} {H M : Pl} (h : Mst l H M) (s : SV) (h1 : nameOk s.sku = true) (h2 : nameOk s.loc = true) (h3 : fits s.hand = true) (h4 : 0 ≤ s.held) (h5 : s.held ≤ s.hand) :
    Mst { l with st := putS l.st s } (updP H s.sku s.loc s.held) (updP M s.sku s.loc s.hand) :=
  ⟨h.f.put s h1 h2 h3 h4 h5, fun k hk => holdOk_put (h.holds k hk), fun k hk => moveOk_put (h.moves k hk)⟩
theorem Mst.find_eq {l : LV} {H M : Pl} (h : Mst l H M) (sku loc : List UInt8) : findS l.st sku loc = ⟨sku, loc, M sku loc, H sku loc⟩ := by
  obtain ⟨g1, g2, _⟩ := h.f.find sku loc
  obtain ⟨k1, k2⟩ := findS_key l.st sku loc
  cases hs : findS l.st sku loc with
  | mk a b c d => rw [hs] at g1 g2 k1 k2; simp only at g1 g2 k1 k2; rw [g1, g2, k1, k2]
theorem Mst.held {l : LV} {H M : Pl} (h : Mst l H M) {sku loc : List UInt8} (h1 : nameOk sku = true) (h2 : nameOk loc = true) {n : Int} (h4 : 0 ≤ H sku loc + n) (h5 : H sku loc + n ≤ M sku loc) :
    Mst (heldL l sku loc n) (updP H sku loc (H sku loc + n)) M ∧ heldL l sku loc n = { l with st := putS l.st ⟨sku, loc, M sku loc, H sku loc + n⟩ } := by
  obtain ⟨g1, g2, g3, g4, g5⟩ := h.f.find sku loc
  have g6 := fits_iff.1 g5
  rw [g2] at g5 g6
  have hw : w64i (H sku loc + n) = H sku loc + n := w64i_eq (fits_iff.2 (by omega))
  have e : heldL l sku loc n = { l with st := putS l.st ⟨sku, loc, M sku loc, H sku loc + n⟩ } := by
    unfold heldL
    rw [h.find_eq]
    simp only [hw]
  have := h.put ⟨sku, loc, M sku loc, H sku loc + n⟩ h1 h2 g5 h4 h5
  rw [e]
  refine ⟨⟨this.f.congr (fun _ _ => rfl) fun a b => ?_, this.holds, this.moves⟩, rfl⟩
  unfold updP
  split
  · rename_i hk; obtain ⟨rfl, rfl⟩ := hk; rfl
  · rfl
theorem Mst.moved {l : LV} {H M : Pl} (h : Mst l H M) {sku loc : List UInt8} (h1 : nameOk sku = true) (h2 : nameOk loc = true) {n kind hold : Int} (h3 : fits (M sku loc + n) = true) (h5 : H sku loc ≤ M sku loc + n) (hfn : fits n = true) (hn : n ≠ 0)
    (hk : kind = 1 ∨ kind = 3 ∨ kind = 6 ∨ kind = 7) (hh : 0 ≤ hold) (hh2 : hold ≠ 0 ↔ kind = 3) :
    Mst (movedL l sku loc n kind hold) H (updP M sku loc (M sku loc + n)) ∧ movedL l sku loc n kind hold = { l with st := putS l.st ⟨sku, loc, M sku loc + n, H sku loc⟩, mo := l.mo ++ [⟨(l.mo.length + 1 : Nat), sku, loc, n, kind, hold⟩] } := by
  obtain ⟨g1, g2, g3, g4, g5⟩ := h.f.find sku loc
  rw [g1] at g3
  have hw : w64i (M sku loc + n) = M sku loc + n := w64i_eq h3
  have e : movedL l sku loc n kind hold = { l with st := putS l.st ⟨sku, loc, M sku loc + n, H sku loc⟩, mo := l.mo ++ [⟨(l.mo.length + 1 : Nat), sku, loc, n, kind, hold⟩] } := by
    unfold movedL
    rw [h.find_eq]
    simp only [hw]
  have := h.put ⟨sku, loc, M sku loc + n, H sku loc⟩ h1 h2 h3 g3 h5
  rw [e]
  refine ⟨⟨this.f.congr (fun a b => ?_) (fun _ _ => rfl), fun k hk => this.holds k hk, fun k hk' => ?_⟩, rfl⟩
  · unfold updP
    split
    · rename_i hk; obtain ⟨rfl, rfl⟩ := hk; rfl
    · rfl
  · simp only at hk' ⊢
    by_cases hlt : k < l.mo.length
    · rw [List.getElem_append_left hlt]
      exact this.moves k hlt
    · have hke : k = l.mo.length := by simp at hk'; omega
      subst hke
      rw [List.getElem_append_right (Nat.le_refl _)]
      simp only [Nat.sub_self, List.getElem_cons_zero]
      have hkn : knownL { l with st := putS l.st ⟨sku, loc, M sku loc + n, H sku loc⟩, mo := l.mo ++ [⟨(l.mo.length + 1 : Nat), sku, loc, n, kind, hold⟩] } sku loc = true := known_find.2 ⟨_, putS_self _ _, rfl, rfl⟩
      simp only [moveOk, hkn, h1, h2, hfn, Bool.and_true, Bool.and_eq_true, decide_eq_true_eq, beq_iff_eq]
      refine ⟨⟨⟨⟨by simp, hn⟩, hk⟩, hh⟩, ?_⟩
      simp [hh2]
theorem Mst.state {l : LV} {H M : Pl} (h : Mst l H M) {k : Nat} (hk : k < l.ho.length) {n : Int} (hn : 1 ≤ n ∧ n ≤ 2) : Mst (stateL l k n) H M := by
  unfold stateL
  refine ⟨h.f, fun j hj => ?_, h.moves⟩
  simp only [List.length_set] at hj
  have hg : l.ho.getD k hZ = l.ho[k] := by simp [List.getD, hk]
  simp only [hg]
  by_cases he : k = j
  · subst he
    simp only [List.getElem_set_self]
    have := h.holds k hk
    simp only [holdOk, Bool.and_eq_true, Bool.or_eq_true, decide_eq_true_eq] at this ⊢
    obtain ⟨⟨⟨⟨h1, h2⟩, h3⟩, h4, h5, h6, h7⟩, h8⟩ := this
    exact ⟨⟨⟨⟨h1, h2⟩, h3⟩, h4, by omega, by omega, h7⟩, .inl (by omega)⟩
  · simp only [List.getElem_set_ne he]
    exact h.holds j hj
end Go.Q

set_option linter.unusedVariables false
set_option linter.unusedSimpArgs false
namespace Go.Q
def Good (l : LV) : Prop := Mst l (activeQ l.ho) (movedQ l.mo)
theorem Mst.congr {l : LV} {H M H' M' : Pl} (h : Mst l H M) (hH : ∀ a b, H a b = H' a b) (hM : ∀ a b, M a b = M' a b) : Mst l H' M' := ⟨h.f.congr hH hM, h.holds, h.moves⟩
theorem good_moved {l : LV} (h : Good l) {sku loc : List UInt8} (h1 : nameOk sku = true) (h2 : nameOk loc = true) {n kind hold : Int} (h3 : fits (movedQ l.mo sku loc + n) = true) (h5 : activeQ l.ho sku loc ≤ movedQ l.mo sku loc + n) (hfn : fits n = true) (hn : n ≠ 0)
    (hk : kind = 1 ∨ kind = 3 ∨ kind = 6 ∨ kind = 7) (hh : 0 ≤ hold) (hh2 : hold ≠ 0 ↔ kind = 3) : Good (movedL l sku loc n kind hold) := by
  obtain ⟨g, e⟩ := Mst.moved h h1 h2 h3 h5 hfn hn hk hh hh2
  unfold Good
  refine g.congr (fun a b => ?_) (fun a b => ?_)
  · rw [e]
  · rw [e]
    simp only [movedQ_app, updP]
    split
    · rename_i hk; obtain ⟨rfl, rfl⟩ := hk; rfl
    · simp
theorem act_facts {l : LV} (h : Good l) {k : Nat} (hk : k < l.ho.length) (h0 : l.ho[k].st = 0) :
    nameOk l.ho[k].sku = true ∧ nameOk l.ho[k].loc = true ∧ 1 ≤ l.ho[k].q ∧ l.ho[k].q ≤ activeQ l.ho l.ho[k].sku l.ho[k].loc ∧ activeQ l.ho l.ho[k].sku l.ho[k].loc ≤ movedQ l.mo l.ho[k].sku l.ho[k].loc ∧ fits (movedQ l.mo l.ho[k].sku l.ho[k].loc) = true ∧ w64i (-l.ho[k].q) = -l.ho[k].q ∧ l.ho[k].id = (k + 1 : Nat) := by
  have hh := h.holds k hk
  simp only [holdOk, Bool.and_eq_true, Bool.or_eq_true, decide_eq_true_eq] at hh
  obtain ⟨⟨⟨⟨h1, h2⟩, h3⟩, h4, h5, h6, h7⟩, h8⟩ := hh
  obtain ⟨g1, g2, g3, g4, g5⟩ := h.f.find l.ho[k].sku l.ho[k].loc
  rw [g2] at g5 g4
  rw [g1] at g4
  have hq : l.ho[k].q ≤ activeQ l.ho l.ho[k].sku l.ho[k].loc := by
    have := sum_ge (f := fun x : HV => if x.sku = l.ho[k].sku ∧ x.loc = l.ho[k].loc ∧ x.st = 0 then x.q else 0) (l := l.ho) (fun x hx => ?_) l.ho[k] (List.getElem_mem hk)
    · simpa [h0, activeQ] using this
    · split
      · obtain ⟨j, hj, rfl⟩ := List.getElem_of_mem hx
        have hh := h.holds j hj
        simp only [holdOk, Bool.and_eq_true, decide_eq_true_eq] at hh
        omega
      · exact Int.le_refl _
  have gf := fits_iff.1 g5
  exact ⟨h2, h3, h4, hq, g4, g5, w64i_eq (fits_iff.2 (by omega)), h1⟩
theorem good_over {l : LV} (h : Good l) {k : Nat} (hk : k < l.ho.length) (h0 : l.ho[k].st = 0) {n : Int} (hn : 1 ≤ n ∧ n ≤ 2) :
    Good (stateL (heldL l l.ho[k].sku l.ho[k].loc (-l.ho[k].q)) k n) ∧ (stateL (heldL l l.ho[k].sku l.ho[k].loc (-l.ho[k].q)) k n).ho = l.ho.set k { l.ho[k] with st := n } ∧ (stateL (heldL l l.ho[k].sku l.ho[k].loc (-l.ho[k].q)) k n).mo = l.mo ∧
      (stateL (heldL l l.ho[k].sku l.ho[k].loc (-l.ho[k].q)) k n).ops = l.ops := by
  obtain ⟨f1, f2, f3, f4, f5, f6, f7, f8⟩ := act_facts h hk h0
  obtain ⟨g, e⟩ := Mst.held h f1 f2 (n := -l.ho[k].q) (by omega) (by omega)
  have eh : (heldL l l.ho[k].sku l.ho[k].loc (-l.ho[k].q)).ho = l.ho := rfl
  have g2 := g.state (k := k) (by rw [eh]; exact hk) hn
  have ego : (stateL (heldL l l.ho[k].sku l.ho[k].loc (-l.ho[k].q)) k n).ho = l.ho.set k { l.ho[k] with st := n } := by
    simp [stateL, eh, List.getD, hk]
  refine ⟨?_, ego, rfl, rfl⟩
  unfold Good
  refine g2.congr (fun a b => ?_) (fun a b => rfl)
  rw [ego, activeQ_set hk h0 (by omega)]
  unfold updP
  split
  · rename_i hk; obtain ⟨rfl, rfl⟩ := hk; omega
  · simp
theorem good_commit {l : LV} (h : Good l) {k : Nat} (hk : k < l.ho.length) (h0 : l.ho[k].st = 0) :
    Good (movedL (stateL (heldL l l.ho[k].sku l.ho[k].loc (-l.ho[k].q)) k 1) l.ho[k].sku l.ho[k].loc (-l.ho[k].q) 3 l.ho[k].id) := by
  obtain ⟨f1, f2, f3, f4, f5, f6, f7, f8⟩ := act_facts h hk h0
  obtain ⟨g, e1, e2, _⟩ := good_over h hk h0 (n := 1) (by omega)
  have f6' := fits_iff.1 f6
  refine good_moved g f1 f2 ?_ ?_ (fits_iff.2 (by omega)) (by omega) (.inr (.inl rfl)) (by omega) (by omega)
  · rw [e2]; exact fits_iff.2 (by omega)
  · rw [e1, e2, activeQ_set hk h0 (by omega)]; simp; omega
theorem good_hold {l : LV} (h : Good l) {sku loc : List UInt8} (h1 : nameOk sku = true) (h2 : nameOk loc = true) {q due : Int} (hq : 1 ≤ q) (hd : 0 ≤ due) (hf : activeQ l.ho sku loc + q ≤ movedQ l.mo sku loc) :
    Good { heldL l sku loc q with ho := l.ho ++ [⟨(l.ho.length + 1 : Nat), sku, loc, q, 0, due⟩] } := by
  obtain ⟨g1, g2, g3, g4, g5⟩ := h.f.find sku loc
  rw [g1] at g3
  obtain ⟨g, e⟩ := Mst.held h h1 h2 (n := q) (by omega) hf
  rw [e] at g ⊢
  refine ⟨g.f.congr (fun a b => ?_) (fun a b => rfl), fun k hk => ?_, fun k hk => g.moves k hk⟩
  · simp only [activeQ_app, updP]
    split
    · rename_i hk; obtain ⟨rfl, rfl⟩ := hk; simp
    · rename_i hk
      rw [if_neg (fun hh => hk ⟨hh.1, hh.2.1⟩)]; simp
  · simp only at hk ⊢
    by_cases hlt : k < l.ho.length
    · rw [List.getElem_append_left hlt]
      exact g.holds k hlt
    · have hke : k = l.ho.length := by simp at hk; omega
      subst hke
      rw [List.getElem_append_right (Nat.le_refl _)]
      simp only [Nat.sub_self, List.getElem_cons_zero]
      have hkn : knownL { l with st := putS l.st ⟨sku, loc, movedQ l.mo sku loc, activeQ l.ho sku loc + q⟩, ho := l.ho ++ [⟨(l.ho.length + 1 : Nat), sku, loc, q, 0, due⟩] } sku loc = true := known_find.2 ⟨_, putS_self _ _, rfl, rfl⟩
      simp only [holdOk, hkn, h1, h2, Bool.and_true, Bool.or_true, Bool.and_eq_true, decide_eq_true_eq]
      exact ⟨by simp, hq, by omega, by omega, hd⟩
theorem expireL_good (due : Int) : ∀ (m : Nat) (l : LV) (i : Nat), Good l → i + m ≤ l.ho.length → Good (expireL l due i m) ∧ (expireL l due i m).ho.length = l.ho.length ∧ (expireL l due i m).mo = l.mo ∧ (expireL l due i m).ops = l.ops := by
  intro m
  induction m with
  | zero => intro l i h _; exact ⟨h, rfl, rfl, rfl⟩
  | succ m ih =>
    intro l i h hi
    unfold expireL
    have hil : i < l.ho.length := by omega
    have hg : l.ho.getD i hZ = l.ho[i] := by simp [List.getD, hil]
    simp only [hg]
    split
    · rename_i hd
      simp only [dueL, decide_eq_true_eq] at hd
      obtain ⟨f1, f2, f3, f4, f5, f6, f7, f8⟩ := act_facts h hil hd.1
      rw [f7]
      obtain ⟨g, e1, e2, e3⟩ := good_over h hil hd.1 (n := 2) (by omega)
      obtain ⟨k1, k2, k3, k4⟩ := ih _ (i + 1) g (by rw [e1]; simp; omega)
      exact ⟨k1, by rw [k2, e1]; simp, by rw [k3, e2], by rw [k4, e3]⟩
    · exact ih l (i + 1) h (by omega)
theorem numO_ok {n : Int} (h : (numO n).2 = 0) : fits n = true ∧ (numO n).1 = n := by
  unfold numO at h ⊢
  split at h
  · rename_i hf; rw [if_pos hf]; exact ⟨hf, rfl⟩
  · simp at h
theorem doesL_good {l : LV} (h : Good l) {o : OpV} (ho : o.ok = true) (hw : o.Wf) (he : (doesL l o).2 = 0) : Good (doesL l o).1 ∧ (doesL l o).1.ops = l.ops := by
  obtain ⟨g1, g2, g3, g4, g5⟩ := h.f.find o.sku o.loc
  have hfree : freeL l o.sku o.loc = movedQ l.mo o.sku o.loc - activeQ l.ho o.sku o.loc := by
    unfold freeL numO
    have := fits_iff.1 g5
    rw [if_pos (fits_iff.2 (by omega)), g1, g2]
  unfold OpV.ok at ho
  unfold doesL at he ⊢
  simp only [g1, g2, moreL, hfree] at he ⊢
  by_cases h1 : o.k = 1
  · simp only [h1, if_pos, true_or, Bool.and_eq_true, decide_eq_true_eq] at ho he ⊢
    split at he
    · rename_i hn; exact absurd he hn
    · rename_i hn
      obtain ⟨n1, n2⟩ := numO_ok (Decidable.not_not.1 hn)
      split at he
      · simp at he
      · rename_i hlt
        rw [if_neg hn, if_neg hlt]
        rw [n2] at hlt
        exact ⟨good_moved h ho.1.1 ho.1.2 n1 (by omega) (fits_iff.2 (by have := hw.q0; have := hw.q1; omega)) (by omega) (.inl rfl) (by omega) (by omega), rfl⟩
  by_cases h7 : o.k = 7
  · simp only [h7, if_pos, or_true, Bool.and_eq_true, decide_eq_true_eq] at ho he ⊢
    simp at ho
    split at he
    · rename_i hn; exact absurd he hn
    · rename_i hn
      obtain ⟨n1, n2⟩ := numO_ok (Decidable.not_not.1 hn)
      split at he
      · simp at he
      · rename_i hlt
        rw [if_neg hn, if_neg hlt]
        rw [n2] at hlt
        exact ⟨good_moved h ho.1.1 ho.1.2 n1 (by omega) (fits_iff.2 (by have := hw.q0; have := hw.q1; omega)) (by omega) (by simp) (by omega) (by omega), rfl⟩
  rw [if_neg (by omega)] at he ⊢
  by_cases h2 : o.k = 2
  · simp only [h2, if_true] at he ⊢
    simp [h2] at ho
    split at he
    · simp at he
    · rename_i hlt
      rw [if_neg hlt]
      exact ⟨good_hold h ho.1.1 ho.1.2 ho.2.2.1 ho.2.2.2.2 (by omega), rfl⟩
  rw [if_neg h2] at he ⊢
  by_cases h5 : o.k = 5
  · simp only [h5, if_true] at he ⊢
    obtain ⟨k1, k2, k3, k4⟩ := expireL_good o.due l.ho.length l 0 h (by omega)
    exact ⟨k1, k4⟩
  rw [if_neg h5] at he ⊢
  by_cases h6 : o.k = 6
  · simp only [h6, if_true] at he ⊢
    simp [h6] at ho
    obtain ⟨⟨⟨n1, n2⟩, n3⟩, n4, n5, n6, n7⟩ := ho
    split at he
    · simp at he
    · rename_i hlt
      rw [if_neg hlt]
      split at he
      · rename_i hn; exact absurd he hn
      · rename_i hn
        rw [if_neg hn]
        obtain ⟨m1, m2⟩ := numO_ok (Decidable.not_not.1 hn)
        obtain ⟨t1, t2, t3, t4, t5⟩ := h.f.find o.sku o.to
        rw [t2] at m1
        rw [t1] at t3 t4
        rw [t2] at t4
        have gf := fits_iff.1 g5
        have hq : w64i (-o.q) = -o.q := w64i_eq (fits_iff.2 (by have := hw.q0; have := hw.q1; omega))
        rw [hq]
        have a1 : Good (movedL l o.sku o.loc (-o.q) 6 0) := good_moved h n1 n2 (fits_iff.2 (by omega)) (by omega) (fits_iff.2 (by have := hw.q0; have := hw.q1; omega)) (by omega) (by simp) (by omega) (by omega)
        have em : movedQ (movedL l o.sku o.loc (-o.q) 6 0).mo o.sku o.to = movedQ l.mo o.sku o.to := by
          show movedQ (l.mo ++ [_]) o.sku o.to = _
          rw [movedQ_app, if_neg (fun hh => n4 hh.2.symm)]; simp
        refine ⟨good_moved a1 n1 n3 (by rw [em]; exact m1) ?_ (fits_iff.2 (by have := hw.q0; have := hw.q1; omega)) (by omega) (by simp) (by omega) (by omega), rfl⟩
        rw [em]
        show activeQ l.ho o.sku o.to ≤ _
        omega
  rw [if_neg h6] at he ⊢
  by_cases h34 : o.k = 3 ∨ o.k = 4
  · simp [h1, h2, h34] at ho
    unfold overL at he ⊢
    split at he
    · simp at he
    · rename_i hc
      rw [if_neg hc]
      rw [not_or] at hc
      have hlt : (o.id - 1).toNat < l.ho.length := by omega
      have hg : holdAt l o.id = l.ho[(o.id - 1).toNat] := by simp only [holdAt, List.getD, List.getElem?_eq_getElem hlt, Option.getD_some]
      simp only [hg] at hc ⊢
      have h0 : l.ho[(o.id - 1).toNat].st = 0 := Decidable.not_not.1 hc.2
      obtain ⟨f1, f2, f3, f4, f5, f6, f7, f8⟩ := act_facts h hlt h0
      rw [f7]
      split
      · exact ⟨(good_over h hlt h0 (n := 2) (by omega)).1, rfl⟩
      · have h3 : o.k = 3 := by omega
        rw [h3]
        exact ⟨good_commit h hlt h0, rfl⟩
  · simp [h1, h2, h34, h5, h6, h7] at ho
theorem stepL_may {l : LV} (h : May l) {o : OpV} (hw : o.Wf) : May (stepL l o).1 := by
  unfold stepL
  split
  · exact h
  · rename_i ho
    split
    · exact h
    · rename_i he
      split
      · exact h
      · rename_i hf
        rw [not_or] at hf
        obtain ⟨g, e⟩ := doesL_good h.m (by simpa using ho) hw (Decidable.not_not.1 he)
        have hops := h.ops
        exact Mst.may (l := { (doesL l o).1 with ops := l.ops + 1 }) ⟨g.f, g.holds, g.moves⟩ (by show 0 ≤ l.ops + 1; omega) (by show fullL (doesL l o).1 = false; simpa using hf.1)
end Go.Q

set_option linter.unusedVariables false
set_option linter.unusedSimpArgs false
namespace Go.Q
open Go
variable {P : Program} {T : TypeId} {xo yo : Operand} {w : World} {K : Value → Prop} {u : Value}
theorem neg_of {k : IntKind} {x : Int} : qG P (Op.unary .neg (.int k x)) w K = K (.int k (k.wrap (-x))) := qG_of (show (Op.unary .neg (.int k x)).run P w = .ok (.int k (k.wrap (-x))) w by rw [← Int.zero_sub]; rfl)
theorem or_mul' {x y k : Nat} (hx : x < 2 ^ k) : (y * 2 ^ k) ||| x = y * 2 ^ k + x := by
  rw [Nat.mul_comm y, Nat.two_pow_add_eq_or_of_lt hx]
theorem or62_of {h l : Int} (h0 : -2 ≤ h) (h1 : h ≤ 1) (l0 : 0 ≤ l) (l1 : l < 4611686018427387904) :
    qG P (bq .or T xo yo (.int .i64 (h * 4611686018427387904)) (.int .i64 l)) w K = K (.int .i64 (h * 4611686018427387904 + l)) :=
  qG_of (run_bq_int (s := .pure _) fun w => by
    have h2 : IntKind.i64.wrap ((BitVec.ofInt 64 (h * 4611686018427387904) ||| BitVec.ofInt 64 l).toNat : Int) = h * 4611686018427387904 + l := by
      obtain ⟨L, rfl⟩ := Int.eq_ofNat_of_zero_le l0
      rw [BitVec.toNat_or, BitVec.toNat_ofInt, BitVec.toNat_ofInt]
      have hl : ((L : Int) % ((2 ^ 64 : Nat) : Int)).toNat = L := by omega
      obtain ⟨q, hq, hq4, hqm⟩ : ∃ q : Nat, ((h * 4611686018427387904) % ((2 ^ 64 : Nat) : Int)).toNat = q * 2 ^ 62 ∧ q < 4 ∧ ((q : Int) = h ∨ (q : Int) = h + 4) := by
        by_cases hn : h < 0
        · exact ⟨(h + 4).toNat, by omega, by omega, by omega⟩
        · exact ⟨h.toNat, by omega, by omega, by omega⟩
      rw [hl, hq, or_mul' (show L < 2 ^ 62 by omega)]
      simp [IntKind.wrap, IntKind.bits, IntKind.signed]
      omega
    simp only [binOp, ne_eq, not_true_eq_false, if_false, Op.intBits]
    show Result.ok _ _ = Result.ok _ _
    congr 2)
def wV (s : Int) : Value := .agg #[.int .i64 (s / 4611686018427387904), .int .i64 (s % 4611686018427387904)]
theorem numO_fit {s : Int} (h : fits s = true) : numO s = (s, 0) := by unfold numO; rw [if_pos h]
theorem numO_unfit {s : Int} (h : fits s = false) : numO s = (0, 10) := by unfold numO; rw [if_neg (by simp [h])]
theorem sum_take {ks : List Int} {i : Nat} (h : i < ks.length) : (ks.take (i + 1)).sum = (ks.take i).sum + ks[i] := by
  rw [List.take_succ_eq_append_getElem h, List.sum_append]; simp
theorem sum_bound : ∀ {ks : List Int}, (∀ x ∈ ks, -9223372036854775808 ≤ x ∧ x < 9223372036854775808) → -9223372036854775808 * ks.length ≤ ks.sum ∧ ks.sum ≤ 9223372036854775808 * ks.length := by
  intro ks
  induction ks with
  | nil => intro _; simp
  | cons x r ih =>
    intro h
    have h1 := h x (by simp)
    have h2 := ih fun y hy => h y (by simp [hy])
    simp only [List.sum_cons, List.length_cons]
    omega
theorem nG_add64 {f : FuncId} {fn : Func} (hf : P.funcs[f]? = some fn) (hname : (fn.name == "runtime.NumGoroutine") = false) (hb : fn.body.isNone = true) (hn : Extern.findNext fn = none) (he : Extern.find fn = some add64Entry) {x y : Int} (hx : 0 ≤ x) (hy : 0 ≤ y)
    {K : KW} (hK : K (.tuple #[.int .u64 ((x + y) % 18446744073709551616), .int .u64 ((x + y) / 18446744073709551616)]) w) : nG P (callFunc f #[.int .u64 x, .int .u64 y, .int .u64 0]) w K := by
  refine ⟨_, w, ?_, hK⟩
  rw [run_callFunc_extern hf hname hb hn he, run_add64 x y 0 hx hy (by omega) (by omega)]
  simp [Result.andThen]
end Go.Q

set_option linter.unusedVariables false
set_option linter.unusedSimpArgs false
namespace Go.Proofs
open Go Go.Q
open Tryz (prog)
def rngI (x : Int) : Prop := -9223372036854775808 ≤ x ∧ x < 9223372036854775808
theorem fits_rng {x : Int} : fits x = true ↔ rngI x := by rw [fits_iff]; unfold rngI; omega
theorem wrapO {s : Int} (h : -18446744073709551616 ≤ s) (h2 : s < 18446744073709551616) : rngI (IntKind.i64.wrap s) ∧ (IntKind.i64.wrap s = s ∨ IntKind.i64.wrap s = s + 18446744073709551616 ∨ IntKind.i64.wrap s = s - 18446744073709551616) := by
  unfold rngI
  simp [IntKind.wrap, IntKind.bits, IntKind.signed]
  omega
theorem numO_cases (s : Int) : (fits s = true ∧ numO s = (s, 0)) ∨ (¬(-9223372036854775808 ≤ s ∧ s ≤ 9223372036854775807) ∧ numO s = (0, 10)) := by
  cases hf : fits s with
  | true => exact .inl ⟨rfl, numO_fit hf⟩
  | false =>
    refine .inr ⟨fun h => ?_, numO_unfit hf⟩
    rw [fits_iff.2 h] at hf
    cases hf
theorem numAdd_spec {w : World} {a b : Int} (ha : rngI a) (hb : rngI b) {K : KW} (hK : K (.tuple #[.int .i64 (numO (a + b)).1, .int .i64 (numO (a + b)).2]) w) : callG prog 143 #[.int .i64 a, .int .i64 b] w K := by
  refine Fn69_call ?_
  unfold Fn69 Fn69_s0
  unfold rngI at ha hb
  obtain ⟨h1, h2⟩ := wrapO (s := a + b) (by omega) (by omega)
  unfold rngI at h1
  simp [-getElem?_pos, -Array.all_eq_true, -Array.getElem?_eq_getElem, -List.length_flatten, gz0, gz1]
  generalize IntKind.i64.wrap (a + b) = t at *
  rcases numO_cases (a + b) with ⟨hf, e⟩ | ⟨hf, e⟩
  · rw [e] at hK
    have hf := fits_iff.1 hf
    have ht : t = a + b := by omega
    subst ht
    repeat' (first | exact hK | refine And.intro ?_ ?_ | intro _ | (exfalso; omega))
  · rw [e] at hK
    repeat' (first | exact hK | refine And.intro ?_ ?_ | intro _ | (exfalso; omega))
theorem numSub_spec {w : World} {a b : Int} (ha : rngI a) (hb : rngI b) {K : KW} (hK : K (.tuple #[.int .i64 (numO (a - b)).1, .int .i64 (numO (a - b)).2]) w) : callG prog 142 #[.int .i64 a, .int .i64 b] w K := by
  refine Fn70_call ?_
  unfold Fn70 Fn70_s0
  unfold rngI at ha hb
  obtain ⟨h1, h2⟩ := wrapO (s := a - b) (by omega) (by omega)
  unfold rngI at h1
  simp [-getElem?_pos, -Array.all_eq_true, -Array.getElem?_eq_getElem, -List.length_flatten, gz0, gz1]
  generalize IntKind.i64.wrap (a - b) = t at *
  rcases numO_cases (a - b) with ⟨hf, e⟩ | ⟨hf, e⟩
  · rw [e] at hK
    have hf := fits_iff.1 hf
    have ht : t = a - b := by omega
    subst ht
    repeat' (first | exact hK | refine And.intro ?_ ?_ | intro _ | (exfalso; omega))
  · rw [e] at hK
    repeat' (first | exact hK | refine And.intro ?_ ?_ | intro _ | (exfalso; omega))
theorem nG106 {w : World} {x y : Int} (hx : 0 ≤ x) (hy : 0 ≤ y) {K : KW} (hK : K (.tuple #[.int .u64 ((x + y) % 18446744073709551616), .int .u64 ((x + y) / 18446744073709551616)]) w) : nG prog (callFunc 100 #[.int .u64 x, .int .u64 y, .int .u64 0]) w K :=
  nG_add64 Tryz.func100 (by kernel_rfl) (by kernel_rfl) (by kernel_rfl) (by kernel_rfl) hx hy hK
theorem wrapU (x : Int) : IntKind.u64.wrap x = x % 18446744073709551616 := by simp [IntKind.wrap, IntKind.bits, IntKind.signed]
theorem numSum_spec {w : World} {v : Value} {ks : List Int} (hr : Rd w v 1 (ks.map intV)) (hk : ∀ x ∈ ks, rngI x) (hl : ks.length ≤ 1000000) {K : KW} (hK : K (.tuple #[.int .i64 (numO ks.sum).1, .int .i64 (numO ks.sum).2]) w) : callG prog 56 #[v] w K := by
  refine Fn71_call ?_
  unfold Fn71 Fn71_s4 Fn71_s3 Fn71_L2
  rw [hr.lenL, List.length_map]
  refine loop_inv (fun m xs wi => ∃ i, i ≤ ks.length ∧ m = ks.length - i ∧ xs = [.int .u64 ((ks.take i).sum / 18446744073709551616 % 18446744073709551616), .int .u64 ((ks.take i).sum % 18446744073709551616), v, .int .i64 ks.length, .int .i64 (i : Nat)] ∧ wi = w) ?_ (m := ks.length) ⟨0, by omega, rfl, by simp, rfl⟩
  rintro m N xs wi ⟨i, hi, rfl, rfl, rfl⟩ hN
  have hiw : IntKind.i64.wrap ((i : Int) + 1) = ((i + 1 : Nat) : Int) := by rw [w64 (by omega) (by omega)]; simp
  unfold Fn71_L2F Fn71_b1
  simp [-getElem?_pos, -Array.all_eq_true, -Array.getElem?_eq_getElem, -List.length_flatten, gz0, gz1]
  refine ⟨fun hlt => ?_, fun hge => ?_⟩
  · obtain ⟨p, hp1, hp2⟩ := hr.one (i := i) (by simpa using hlt) (x := .int .i64 ks[i]) (by simp [intV])
    have hp1' : ∀ K : Value → Prop, ia 1 v (.int .i64 i) K = K p := fun K => hp1 .i64 K
    have hki := hk ks[i] (List.getElem_mem hlt)
    unfold rngI at hki
    obtain ⟨S, hS⟩ : ∃ S, S = (ks.take i).sum := ⟨_, rfl⟩
    have hS' := sum_take hlt
    rw [← hS] at hS' ⊢
    simp [-getElem?_pos, -Array.all_eq_true, -Array.getElem?_eq_getElem, -List.length_flatten, gz0, gz1, hp1', hp2, wrapU]
    refine nG106 (by omega) (by omega) ?_
    simp [-getElem?_pos, -Array.all_eq_true, -Array.getElem?_eq_getElem, -List.length_flatten, gz0, gz1]
    rw [shr_of (by omega) (by decide)]
    simp [-getElem?_pos, -Array.all_eq_true, -Array.getElem?_eq_getElem, -List.length_flatten, gz0, gz1, wrapU]
    refine hN (ks.length - (i + 1)) _ wi (by omega) ⟨i + 1, by omega, rfl, ?_, rfl⟩
    rw [hS', hiw]
    congr 2
    · congr 1
      omega
  · have hie : i = ks.length := by omega
    subst hie
    rw [List.take_length]
    unfold Fn71_s0
    have hb := sum_bound (ks := ks) (fun x hx => hk x hx)
    simp [-getElem?_pos, -Array.all_eq_true, -Array.getElem?_eq_getElem, -List.length_flatten, gz0, gz1]
    rw [shr_of (by omega) (by decide)]
    obtain ⟨S, hS⟩ : ∃ S, S = ks.sum := ⟨_, rfl⟩
    rw [← hS] at hK hb ⊢
    have hw : rngI (IntKind.i64.wrap (S % 18446744073709551616)) ∧ (IntKind.i64.wrap (S % 18446744073709551616) = S % 18446744073709551616 ∨ IntKind.i64.wrap (S % 18446744073709551616) = S % 18446744073709551616 - 18446744073709551616) := by
      unfold rngI
      simp [IntKind.wrap, IntKind.bits, IntKind.signed]
      omega
    unfold rngI at hw
    simp [-getElem?_pos, -Array.all_eq_true, -Array.getElem?_eq_getElem, -List.length_flatten, gz0, gz1, wrapU]
    generalize IntKind.i64.wrap (S % 18446744073709551616) = t at *
    rcases numO_cases S with ⟨hf, e⟩ | ⟨hf, e⟩
    · rw [e] at hK
      have hf := fits_iff.1 hf
      have ht : t = S := by omega
      subst ht
      repeat' (first | exact hK | refine And.intro ?_ ?_ | intro _ | (exfalso; omega))
    · rw [e] at hK
      have q1 : -1000000 ≤ S / 18446744073709551616 ∧ S / 18446744073709551616 ≤ 1000000 := by omega
      have t1 : t / 9223372036854775808 = 0 ∨ t / 9223372036854775808 = -1 := by omega
      have main : S / 18446744073709551616 % 18446744073709551616 = t / 9223372036854775808 % 18446744073709551616 → False := by
        intro h
        have q2 : S / 18446744073709551616 = 0 ∨ S / 18446744073709551616 = -1 := by
          generalize S / 18446744073709551616 = q at *
          generalize t / 9223372036854775808 = u at *
          omega
        generalize hq : S / 18446744073709551616 = q at *
        rcases q2 with rfl | rfl <;> rcases t1 with t1 | t1 <;> rw [t1] at h <;> omega
      repeat' (first | exact hK | refine And.intro ?_ ?_ | intro _ | (exfalso; exact main (by assumption)))
theorem zcW : zc prog 173 = [.int .i64 0, .int .i64 0].toArray := by kernel_rfl
theorem aggW : aggO prog 173 = some true := by kernel_rfl
theorem szW : szO prog 173 = some 2 := by kernel_rfl
theorem lvW {b : Nat} {w : World} {c : Array Value} {T : TypeId} {fr : Nat × Nat} (hb : Live w b) (hs : c.size = 2) {K : Value → Prop} :
    qG prog (do loadVar 173 (← asAddr (.pointer (some ⟨b, 0, none⟩)))) (setBlk w b (.cells c T fr)) K = K (.agg c) := loadVar_of aggW szW (heap_self hb) hs
theorem lvWa {w : World} {c : Array Value} {T : TypeId} (hs : c.size = 2) {K : Value → Prop} :
    qG prog (do loadVar 173 (← asAddr (.pointer (some ⟨w.heap.size, 0, none⟩)))) (w.alloc (.cells c T)) K = K (.agg c) := loadVar_of aggW szW heap_new hs
theorem of_w {w : World} {n : Int} (hn : rngI n) {K : KW} (hK : ∀ w', Kp [] w w' → K (wV n) w') : callG prog 123 #[.int .i64 n] w K := by
  refine Fn74_call ?_
  unfold Fn74 Fn74_s0
  simp [-getElem?_pos, -Array.all_eq_true, -Array.getElem?_eq_getElem, -List.length_flatten, gz0, gz1, zcW]
  rw [shr_of (by omega) (by decide)]
  rw [and_of 62 (by omega) (by decide)]
  simp [-getElem?_pos, -Array.all_eq_true, -Array.getElem?_eq_getElem, -List.length_flatten, gz0, gz1, bld_done, bld_if, offAt, putAt, heap_new]
  rw [lvWa rfl]
  exact hK _ kp_alloc
theorem plus_w {w : World} {a b : Int} (ha : -9223372036854775808 * 1000000 ≤ a ∧ a ≤ 9223372036854775808 * 1000000) (hb : rngI b) {K : KW} (hK : ∀ w', Kp [] w w' → K (wV (a + b)) w') : callG prog 122 #[wV a, wV b] w K := by
  refine Fn75_call ?_
  unfold Fn75 Fn75_s0 wV
  unfold rngI at hb
  simp only [newG_k, cells_agg, zcW]
  obtain ⟨p, hp⟩ : ∃ p, p = w.heap.size := ⟨_, rfl⟩
  obtain ⟨w1, hw1⟩ := ex_w (w' := w.alloc (.cells #[.int .i64 (a / 4611686018427387904), .int .i64 (a % 4611686018427387904)] 173))
  have hk1 : Kp [] w w1 := by rw [hw1]; exact kp_alloc
  have h1 : w1.heap[p]? = some (.cells #[.int .i64 (a / 4611686018427387904), .int .i64 (a % 4611686018427387904)] 173) := by rw [hw1, hp]; exact heap_new
  rw [← hw1, ← hp]
  obtain ⟨q, hq⟩ : ∃ q, q = w1.heap.size := ⟨_, rfl⟩
  obtain ⟨w2, hw2⟩ := ex_w (w' := w1.alloc (.cells #[.int .i64 (b / 4611686018427387904), .int .i64 (b % 4611686018427387904)] 173))
  have hk2 : Kp [] w1 w2 := by rw [hw2]; exact kp_alloc
  have h2 : w2.heap[q]? = some (.cells #[.int .i64 (b / 4611686018427387904), .int .i64 (b % 4611686018427387904)] 173) := by rw [hw2, hq]; exact heap_new
  rw [← hw2, ← hq]
  obtain ⟨r, hr⟩ : ∃ r, r = w2.heap.size := ⟨_, rfl⟩
  obtain ⟨w3, hw3⟩ := ex_w (w' := w2.alloc (.cells [.int .i64 0, .int .i64 0].toArray 173))
  have hk3 : Kp [] w2 w3 := by rw [hw3]; exact kp_alloc
  have h3 : w3.heap[r]? = some (.cells [.int .i64 0, .int .i64 0].toArray 173) := by rw [hw3, hr]; exact heap_new
  rw [← hw3, ← hr]
  have h13 := (hk2.trans' hk3).get h1 (by simp)
  have h23 := hk3.get h2 (by simp)
  have e1 : IntKind.i64.wrap (a % 4611686018427387904 - 4611686018427387904) = a % 4611686018427387904 - 4611686018427387904 := w64 (by omega) (by omega)
  have e2 : IntKind.i64.wrap (a % 4611686018427387904 - 4611686018427387904 + b % 4611686018427387904) = a % 4611686018427387904 - 4611686018427387904 + b % 4611686018427387904 := w64 (by omega) (by omega)
  have e3 : IntKind.i64.wrap (a / 4611686018427387904 + b / 4611686018427387904) = a / 4611686018427387904 + b / 4611686018427387904 := w64 (by omega) (by omega)
  have e4 : IntKind.i64.wrap (a / 4611686018427387904 + b / 4611686018427387904 + 1) = a / 4611686018427387904 + b / 4611686018427387904 + 1 := w64 (by omega) (by omega)
  have e5 : IntKind.i64.wrap (a % 4611686018427387904 - 4611686018427387904 + b % 4611686018427387904 + 4611686018427387904) = a % 4611686018427387904 - 4611686018427387904 + b % 4611686018427387904 + 4611686018427387904 := w64 (by omega) (by omega)
  have l3 := live_of h3
  have hrs : w.heap.size ≤ r := by have := hk1.size; have := hk2.size; omega
  have hkf : ∀ o, Kp [] w (setBlk w3 r o) := fun o => ((hk1.trans' hk2).trans' hk3).setBlk (.inr hrs) o
  simp [-getElem?_pos, -Array.all_eq_true, -Array.getElem?_eq_getElem, -List.length_flatten, gz0, gz1, h13, h23, h3, e1, e2, e3, e4, e5, zcW, bld_done, bld_if, offAt, putAt, lvW, l3]
  refine ⟨fun hc => ?_, fun hc => ?_⟩
  · have := hK _ (hkf (.cells #[.int .i64 (a / 4611686018427387904 + b / 4611686018427387904 + 1), .int .i64 (a % 4611686018427387904 - 4611686018427387904 + b % 4611686018427387904)] 173))
    unfold wV at this
    rw [show (a + b) / 4611686018427387904 = a / 4611686018427387904 + b / 4611686018427387904 + 1 by omega, show (a + b) % 4611686018427387904 = a % 4611686018427387904 - 4611686018427387904 + b % 4611686018427387904 by omega] at this
    exact this
  · have := hK _ (hkf (.cells #[.int .i64 (a / 4611686018427387904 + b / 4611686018427387904), .int .i64 (a % 4611686018427387904 - 4611686018427387904 + b % 4611686018427387904 + 4611686018427387904)] 173))
    unfold wV at this
    rw [show (a + b) / 4611686018427387904 = a / 4611686018427387904 + b / 4611686018427387904 by omega, show (a + b) % 4611686018427387904 = a % 4611686018427387904 - 4611686018427387904 + b % 4611686018427387904 + 4611686018427387904 by omega] at this
    exact this
theorem number_w {w : World} {a : Int} (ha : -9223372036854775808 * 1000001 ≤ a ∧ a ≤ 9223372036854775808 * 1000001) {K : KW} (hK : ∀ w', Kp [] w w' → K (.tuple #[.int .i64 (numO a).1, .int .i64 (numO a).2]) w') : callG prog 124 #[wV a] w K := by
  refine Fn73_call ?_
  unfold Fn73 Fn73_s0 wV
  simp only [newG_k, cells_agg]
  obtain ⟨p, hp⟩ : ∃ p, p = w.heap.size := ⟨_, rfl⟩
  obtain ⟨w1, hw1⟩ := ex_w (w' := w.alloc (.cells #[.int .i64 (a / 4611686018427387904), .int .i64 (a % 4611686018427387904)] 173))
  have hk1 : Kp [] w w1 := by rw [hw1]; exact kp_alloc
  have h1 : w1.heap[p]? = some (.cells #[.int .i64 (a / 4611686018427387904), .int .i64 (a % 4611686018427387904)] 173) := by rw [hw1, hp]; exact heap_new
  rw [← hw1, ← hp]
  have hK := hK w1 hk1
  simp [-getElem?_pos, -Array.all_eq_true, -Array.getElem?_eq_getElem, -List.length_flatten, gz0, gz1, h1]
  rcases numO_cases a with ⟨hf, e⟩ | ⟨hf, e⟩
  · rw [e] at hK
    have hf := fits_iff.1 hf
    refine ⟨fun h => by exfalso; omega, fun _ => ⟨fun h => by exfalso; omega, fun _ => ?_⟩⟩
    rw [shl_of (by omega) (by decide)]
    have e1 : IntKind.i64.wrap (a / 4611686018427387904 * 2 ^ (62 : Int).toNat) = a / 4611686018427387904 * 4611686018427387904 := by
      rw [show (2 : Int) ^ (62 : Int).toNat = 4611686018427387904 by decide]
      exact w64 (by omega) (by omega)
    rw [e1, or62_of (by omega) (by omega) (by omega) (by omega)]
    rw [show a / 4611686018427387904 * 4611686018427387904 + a % 4611686018427387904 = a by omega]
    exact hK
  · rw [e] at hK
    exact ⟨fun h => hK, fun _ => ⟨fun h => hK, fun _ => by exfalso; omega⟩⟩
theorem refSum1_spec {w : World} {v : Value} {ks : List Int} (hr : Rd w v 1 (ks.map intV)) (hk : ∀ x ∈ ks, rngI x) (hl : ks.length ≤ 100000) {K : KW} (hK : ∀ w', Kp [] w w' → K (.tuple #[.int .i64 (numO ks.sum).1, .int .i64 (numO ks.sum).2]) w') : callG prog 102 #[v] w K := by
  refine Fn72_call ?_
  unfold Fn72 Fn72_s4 Fn72_s3
  simp [-getElem?_pos, -Array.all_eq_true, -Array.getElem?_eq_getElem, -List.length_flatten, gz0, gz1, zcW, bld_done, heap_new]
  obtain ⟨b, hb⟩ : ∃ b, b = w.heap.size := ⟨_, rfl⟩
  obtain ⟨w1, hw1⟩ := ex_w (w' := w.alloc (.cells #[.int .i64 0, .int .i64 0] 173))
  have hk1 : Kp [] w w1 := by rw [hw1]; exact kp_alloc
  have h1 : w1.heap[b]? = some (.cells #[.int .i64 0, .int .i64 0] 173) := by rw [hw1, hb]; exact heap_new
  rw [← hw1, ← hb]
  unfold Fn72_L2
  refine loop_inv (fun m xs wi => ∃ i, i ≤ ks.length ∧ m = ks.length - i ∧ xs = [v, .pointer (some ⟨b, 0, none⟩), .int .i64 (i : Nat)] ∧ Kp [] w wi ∧ wi.heap[b]? = some (.cells #[.int .i64 ((ks.take i).sum / 4611686018427387904), .int .i64 ((ks.take i).sum % 4611686018427387904)] 173)) ?_ (m := ks.length) ⟨0, by omega, rfl, rfl, hk1, by simpa using h1⟩
  rintro m N xs wi ⟨i, hi, rfl, rfl, hki, hbi⟩ hN
  have hiw : IntKind.i64.wrap ((i : Int) + 1) = ((i + 1 : Nat) : Int) := by rw [w64 (by omega) (by omega)]; simp
  have hri := hr.keep hki
  have htk : ∀ x ∈ ks.take i, rngI x := fun x hx => hk x (List.mem_of_mem_take hx)
  have hbd := sum_bound (ks := ks.take i) htk
  have htl : (ks.take i).length ≤ 100000 := by rw [List.length_take]; omega
  unfold Fn72_L2F Fn72_b1
  simp [-getElem?_pos, -Array.all_eq_true, -Array.getElem?_eq_getElem, -List.length_flatten, gz0, gz1, hri.lenL, -ldn_p, -stn_p]
  refine ⟨fun hlt => ?_, fun hge => ?_⟩
  · obtain ⟨p, hp1, hp2⟩ := (hri.keep kp_drew).one (i := i) (by simpa using hlt) (x := .int .i64 ks[i]) (by simp [intV])
    have hp1' : ∀ K : Value → Prop, ia 1 v (.int .i64 i) K = K p := fun K => hp1 .i64 K
    have hki2 := hk ks[i] (List.getElem_mem hlt)
    have hS' := sum_take hlt
    have hld : ∀ {W : World} {K : Value → Prop}, W.heap[b]? = some (.cells #[.int .i64 ((ks.take i).sum / 4611686018427387904), .int .i64 ((ks.take i).sum % 4611686018427387904)] 173) → ldn 2 (.pointer (some ⟨b, 0, none⟩)) W K = K (wV (ks.take i).sum) := by
      intro W K h
      simp [-getElem?_pos, -Array.all_eq_true, -Array.getElem?_eq_getElem, -List.length_flatten, gz0, gz1, h, wV]
    rw [hld (by rw [heap_drew]; exact hbi)]
    simp [-getElem?_pos, -Array.all_eq_true, -Array.getElem?_eq_getElem, -List.length_flatten, gz0, gz1, hp1', hp2, -ldn_p, -stn_p]
    refine of_w hki2 fun w2 k2 => ?_
    have hb2 := (kp_drew.trans' k2).get hbi (by simp)
    rw [hld hb2]
    refine ⟨rfl, plus_w (by omega) hki2 fun w3 k3 => ?_⟩
    have hb3 := k3.get hb2 (by simp)
    rw [← hS']
    unfold wV
    have hk3 : Kp [] w w3 := (hki.trans' (kp_drew.trans' k2)).trans' k3
    simp [-getElem?_pos, -Array.all_eq_true, -Array.getElem?_eq_getElem, -List.length_flatten, gz0, gz1, hb3, hiw]
    refine hN (ks.length - (i + 1)) _ _ (by omega) ⟨i + 1, by omega, rfl, by simp, hk3.setBlk (.inr (by omega)) _, heap_self (live_of hb3)⟩
  · have hie : i = ks.length := by omega
    subst hie
    rw [List.take_length] at hbi hbd
    unfold Fn72_s0
    have hld : ∀ {K : Value → Prop}, ldn 2 (.pointer (some ⟨b, 0, none⟩)) wi K = K (wV ks.sum) := by
      intro K
      simp [-getElem?_pos, -Array.all_eq_true, -Array.getElem?_eq_getElem, -List.length_flatten, gz0, gz1, hbi, wV]
    rw [hld]
    refine number_w (by omega) fun w2 k2 => ?_
    simp [-getElem?_pos, -Array.all_eq_true, -Array.getElem?_eq_getElem, -List.length_flatten, gz0, gz1]
    exact hK w2 (hki.trans' k2)
end Go.Proofs

set_option linter.unusedVariables false
set_option linter.unusedSimpArgs false
namespace Go.Q
open Go
def cmpL (a b : List UInt8) : Int := if lexL a b = true then -1 else if lexL b a = true then 1 else 0
theorem cmpL_zero {a b : List UInt8} : cmpL a b = 0 ↔ a = b := by
  unfold cmpL
  constructor
  · intro h
    split at h
    · simp at h
    · split at h
      · simp at h
      · rename_i h1 h2
        exact lexL_tri (by simpa using h1) (by simpa using h2)
  · rintro rfl
    simp [lexL_irrefl]
theorem lexL_pre : ∀ {a b : List UInt8}, (∀ i, i < min a.length b.length → a.getD i 0 = b.getD i 0) → lexL a b = decide (a.length < b.length) := by
  intro a
  induction a with
  | nil => intro b h; cases b <;> rfl
  | cons x a ih =>
    intro b h
    cases b with
    | nil => rfl
    | cons y b =>
      have h0 := h 0 (by simp)
      simp at h0
      subst h0
      rw [lexL_cons, ih (fun i hi => by have := h (i + 1) (by simp at hi ⊢; omega); simpa using this)]
      simp
theorem lexL_diff : ∀ {i : Nat} {a b : List UInt8}, i < min a.length b.length → (∀ j, j < i → a.getD j 0 = b.getD j 0) → a.getD i 0 ≠ b.getD i 0 → lexL a b = decide (a.getD i 0 < b.getD i 0) := by
  intro i
  induction i with
  | zero =>
    intro a b hi _ hne
    cases a with
    | nil => simp at hi
    | cons x a =>
      cases b with
      | nil => simp at hi
      | cons y b =>
        simp at hne ⊢
        rw [lexL_cons]
        simp [hne]
  | succ i ih =>
    intro a b hi h hne
    cases a with
    | nil => simp at hi
    | cons x a =>
      cases b with
      | nil => simp at hi
      | cons y b =>
        have h0 := h 0 (by omega)
        simp at h0
        subst h0
        rw [lexL_cons, ih (by simp at hi ⊢; omega) (fun j hj => by have := h (j + 1) (by omega); simpa using this) (by simpa using hne)]
        simp
theorem str_get (l : List UInt8) (i : Nat) : (str l)[i]! = l.getD i 0 := by
  by_cases h : i < (str l).size
  · rw [getElem!_pos (str l) i h]
    have hl : i < l.length := by simpa using h
    simp only [List.getD, List.getElem?_eq_getElem hl, Option.getD_some]
    show (str l).data[i] = _
    simp [str]
  · rw [getElem!_neg (str l) i h]
    have hl : ¬ i < l.length := by simpa using h
    simp only [List.getD, List.getElem?_eq_none (Nat.le_of_not_lt hl), Option.getD_none]
    rfl
theorem cmp_eq (a b : List UInt8) : Extern.BytealgCompare.cmp (str a) (str b) = cmpL a b := by
  unfold Extern.BytealgCompare.cmp
  simp only [str_get, str_size]
  cases hf : (List.range (min a.length b.length)).find? (fun i => a.getD i 0 != b.getD i 0) with
  | some i =>
    rw [List.find?_range_eq_some] at hf
    obtain ⟨h1, h2, h3⟩ := hf
    have hi : i < min a.length b.length := by simpa using h2
    have hne : a.getD i 0 ≠ b.getD i 0 := by simpa using h1
    have hl : ∀ j, j < i → a.getD j 0 = b.getD j 0 := fun j hj => by have := h3 j hj; simpa using this
    have e1 := lexL_diff hi hl hne
    have e2 := lexL_diff (a := b) (b := a) (by omega) (fun j hj => (hl j hj).symm) (Ne.symm hne)
    unfold cmpL
    rw [e1, e2]
    clear e1 e2 hl h1 h3
    simp only
    generalize a.getD i 0 = p at *
    generalize b.getD i 0 = q at *
    by_cases hc : p < q
    · simp [hc]
    · have : q < p := by
        rcases UInt8.lt_or_lt_of_ne hne with h | h
        · exact absurd h hc
        · exact h
      simp [hc, this]
  | none =>
    rw [List.find?_eq_none] at hf
    have hl : ∀ i, i < min a.length b.length → a.getD i 0 = b.getD i 0 := fun i hi => by have := hf i (by simpa using hi); simpa using this
    unfold cmpL
    rw [lexL_pre hl, lexL_pre (a := b) (b := a) (fun i hi => (hl i (by omega)).symm)]
    by_cases h1 : a.length < b.length
    · simp [h1]
    · by_cases h2 : b.length < a.length
      · simp [h1, h2]
      · simp [h1, h2]
theorem nG_cmp {P : Program} {w : World} {f : FuncId} {fn : Func} (hf : P.funcs[f]? = some fn) (hname : (fn.name == "runtime.NumGoroutine") = false) (hb : fn.body.isNone = true) (hn : Extern.findNext fn = none) (he : Extern.find fn = some Extern.BytealgCompare.compare) (a b : List UInt8)
    {K : KW} (hK : K (.int .i64 (cmpL a b)) w) : nG P (callFunc f #[.string (str a), .string (str b)]) w K := by
  refine ⟨_, w, ?_, hK⟩
  rw [run_callFunc_extern hf hname hb hn he]
  have : (Extern.BytealgCompare.compare #[.string (str a), .string (str b)]).run P w = .ok (.int .i64 (Extern.BytealgCompare.cmp (str a) (str b))) w := rfl
  rw [this, cmp_eq]
  rfl
def ordL (s l s' l' : List UInt8) : Int := if cmpL s s' ≠ 0 then cmpL s s' else cmpL l l'
theorem ordL_neg {a b : SV} : (ordL a.sku a.loc b.sku b.loc < 0) ↔ ahead a b = true := by
  unfold ordL ahead
  by_cases h : a.sku = b.sku
  · have h0 := cmpL_zero.2 h
    rw [if_neg (by simp [h0])]
    simp only [h, lexL_irrefl, Bool.false_or, decide_true, Bool.true_and]
    unfold cmpL
    split
    · simp_all
    · split <;> simp_all
  · have h0 : cmpL a.sku b.sku ≠ 0 := fun hh => h (cmpL_zero.1 hh)
    rw [if_pos h0]
    simp only [h, decide_false, Bool.false_and, Bool.or_false]
    unfold cmpL
    split
    · simp_all
    · split <;> simp_all
theorem ordL_zero {s l s' l' : List UInt8} : ordL s l s' l' = 0 ↔ s = s' ∧ l = l' := by
  unfold ordL
  by_cases h : s = s'
  · have h0 := cmpL_zero.2 h
    rw [if_neg (by simp [h0]), cmpL_zero]
    simp [h]
  · have h0 : cmpL s s' ≠ 0 := fun hh => h (cmpL_zero.1 hh)
    rw [if_pos h0]
    simp [h, h0]
end Go.Q

set_option linter.unusedVariables false
set_option linter.unusedSimpArgs false
namespace Go.Q
open Go
structure ME where
  a : List UInt8
  b : List UInt8
  v : Value
def keyV (a b : List UInt8) : Value := .agg #[.string (str a), .string (str b)]
def entsFrom : Nat → List ME → List MapEntry
  | _, [] => []
  | i, e :: r => ⟨keyV e.a e.b, e.v, i⟩ :: entsFrom (i + 1) r
def MapIs (w : World) (n : Nat) (m : List ME) : Prop := w.heap[n]? = some (.map (entsFrom 0 m).toArray m.length)
structure MapT (P : Program) (T kt et : TypeId) (z : Value) : Prop where
  hm : P.underlying T = some (.map kt et)
  wide : (match P.underlying kt with | some (.array _ _) | some (.struct _) => true | _ => false) = true
  ck : ∀ e a b w, (Instr.checkKey e 10000 kt (keyV a b)).run P w = .ok () w
  eq : ∀ a b c d w, (Op.equal kt (keyV a b) (keyV c d)).run P w = .ok (decide (a = c ∧ b = d)) w
  zv : ∀ w, (zeroValue et).run P w = .ok z w
def findE (a b : List UInt8) : List ME → Nat → Option (Nat × Value)
  | [], _ => none
  | e :: r, i => if a = e.a ∧ b = e.b then some (i, e.v) else findE a b r (i + 1)
section
variable {P : Program} {T kt et : TypeId} {z : Value} {w : World} {n : Nat} {m : List ME} {a b : List UInt8}
theorem MapIs.keep {w' : World} {S : List Nat} (h : MapIs w n m) (hk : Kp S w w') (hn : n ∉ S) : MapIs w' n m := hk.get h hn
theorem ents_get : ∀ (m : List ME) (i j : Nat) (h : j < m.length), (entsFrom i m)[j]? = some ⟨keyV m[j].a m[j].b, m[j].v, i + j⟩ := by
  intro m
  induction m with
  | nil => intro i j h; simp at h
  | cons e r ih =>
    intro i j h
    cases j with
    | zero => rfl
    | succ j =>
      have := ih (i + 1) j (by simpa using h)
      simp only [entsFrom, List.getElem?_cons_succ, this, List.getElem_cons_succ]
      congr 2; omega
theorem ents_app : ∀ (m : List ME) (i : Nat) (e : ME), entsFrom i (m ++ [e]) = entsFrom i m ++ [⟨keyV e.a e.b, e.v, i + m.length⟩] := by
  intro m
  induction m with
  | nil => intro i e; rfl
  | cons x r ih =>
    intro i e
    simp only [List.cons_append, entsFrom, ih, List.length_cons]
    congr 4; omega
theorem asking (h : MapT P T kt et z) : ∀ (m : List ME) (i j : Nat), (Instr.findAsking kt (keyV a b) (entsFrom i m) j).run P w = .ok (findE a b m j) w := by
  intro m
  induction m with
  | nil => intro i j; rfl
  | cons e r ih =>
    intro i j
    simp only [entsFrom, Instr.findAsking, Sem.run_bind, h.eq, Result.andThen_ok, findE]
    by_cases hc : a = e.a ∧ b = e.b
    · simp [hc, Sem.run, pure]
    · simp [hc, ih]
theorem finding (h : MapT P T kt et z) : (Instr.findKey kt (keyV a b) (entsFrom 0 m)).run P w = .ok (findE a b m 0) w := by
  rw [run_findKey_eq w h.wide, asking h]
theorem getO (hm : MapIs w n m) : (getObj n).run P w = .ok (.map (entsFrom 0 m).toArray m.length) w := by
  unfold MapIs at hm
  simp [getObj, Sem.run, hm]
theorem setO {o : Obj} (hm : MapIs w n m) : (setObj n o).run P w = .ok () (setBlk w n o) := by
  unfold MapIs at hm
  simp [setObj, Sem.run, hm, setBlk]
theorem eG_of {s : Sem Value} {w w' : World} {v : Value} {K : KW} (h : s.run P w = .ok v w') (hK : K v w') : eG P s w K := ⟨v, w', h, hK⟩
theorem uG_of {s : Sem Unit} {w w' : World} {K : World → Prop} (h : s.run P w = .ok () w') (hK : K w') : uG P s w K := ⟨w', h, hK⟩
theorem map_new {K : KW} (hK : MapIs (w.alloc (.map #[] 0)) w.heap.size [] → K (.map (some w.heap.size)) (w.alloc (.map #[] 0))) : eG P (Instr.makeMap T none) w K :=
  eG_of (v := .map (some w.heap.size)) (w' := w.alloc (.map #[] 0)) rfl (hK heap_new)
theorem lookup_run (h : MapT P T kt et z) (hm : MapIs w n m) (ok : Bool) :
    (Instr.lookup T (.map (some n)) (keyV a b) ok).run P w = .ok (if ok = true then .tuple #[((findE a b m 0).map (·.2)).getD z, .bool (findE a b m 0).isSome] else ((findE a b m 0).map (·.2)).getD z) w := by
  have hf : (Instr.findKey kt (keyV a b) (entsFrom 0 m).toArray.toList).run P w = .ok (findE a b m 0) w := finding h
  have hp : ∀ x : Array MapEntry, (pure x : Sem (Array MapEntry)).run P w = .ok x w := fun _ => rfl
  simp only [Instr.lookup, Sem.run_bind, run_underlying h.hm, Result.andThen_ok, getO hm, h.ck, hp, hf]
  cases findE a b m 0 with
  | none =>
    simp only [Sem.run_bind, h.zv, Result.andThen_ok]
    cases ok <;> rfl
  | some x =>
    obtain ⟨i, v⟩ := x
    cases ok <;> rfl
theorem map_get (h : MapT P T kt et z) (hm : MapIs w n m) {K : Value → Prop} (hK : K (((findE a b m 0).map (·.2)).getD z)) : qG P (Instr.lookup T (.map (some n)) (keyV a b) false) w K := by
  rw [qG_of (lookup_run h hm false)]; exact hK
theorem map_get2 (h : MapT P T kt et z) (hm : MapIs w n m) {K : Value → Prop} (hK : K (.tuple #[((findE a b m 0).map (·.2)).getD z, .bool (findE a b m 0).isSome])) : qG P (Instr.lookup T (.map (some n)) (keyV a b) true) w K := by
  rw [qG_of (lookup_run h hm true)]; exact hK
theorem findE_none : ∀ {m : List ME} {k : Nat}, findE a b m k = none ↔ ∀ e ∈ m, ¬(a = e.a ∧ b = e.b) := by
  intro m
  induction m with
  | nil => intro k; simp [findE]
  | cons e r ih =>
    intro k
    unfold findE
    split
    · rename_i hc; simp [hc]
    · rename_i hc; rw [ih]; simp only [List.mem_cons, forall_eq_or_imp]; exact ⟨fun h => ⟨hc, h⟩, fun h => h.2⟩
theorem findE_at : ∀ {m : List ME} {k i : Nat} (h : i < m.length), (∀ j (hj : j < m.length), j ≠ i → ¬(m[j].a = m[i].a ∧ m[j].b = m[i].b)) → findE m[i].a m[i].b m k = some (k + i, m[i].v) := by
  intro m
  induction m with
  | nil => intro k i h; simp at h
  | cons e r ih =>
    intro k i h hu
    unfold findE
    cases i with
    | zero => simp
    | succ i =>
      have h0 := hu 0 (by simp) (by omega)
      simp only [List.getElem_cons_zero, List.getElem_cons_succ] at h0 ⊢
      rw [if_neg (fun hh => h0 ⟨hh.1.symm, hh.2.symm⟩), ih (k := k + 1) (by simpa using h) (fun j hj hne => by have := hu (j + 1) (by simpa using hj) (by omega); simpa using this)]
      congr 2; omega
theorem ents_modify : ∀ (m : List ME) (i j : Nat) (h : j < m.length) (v : Value), (entsFrom i m).modify j (fun e => { e with val := v }) = entsFrom i (m.set j { m[j] with v := v }) := by
  intro m
  induction m with
  | nil => intro i j h; simp at h
  | cons e r ih =>
    intro i j h v
    cases j with
    | zero => rfl
    | succ j =>
      simp only [entsFrom, List.modify_succ_cons, List.set_cons_succ, List.getElem_cons_succ, ih (i + 1) j (by simpa using h) v]
theorem keyStays (x y : List UInt8) : (Instr.keyThatStays (keyV x y) (keyV x y)).run P w = .ok (keyV x y) w := by
  unfold Instr.keyThatStays
  have : Instr.sameBits 10000 (keyV x y) (keyV x y) = true := by
    show Instr.sameBits (9999 + 1) (.agg #[.string (str x), .string (str y)]) (.agg #[.string (str x), .string (str y)]) = true
    unfold Instr.sameBits
    have hb : ∀ s : ByteArray, (s == s) = true := fun s => by rw [MapKept.bytes_beq]
    simp [Instr.sameBits, hb]
  rw [if_pos this]
  rfl
theorem map_entry_new (h : MapT P T kt et z) (hm : MapIs w n m) (hn : findE a b m 0 = none) {K : KW}
    (hK : ∀ w', MapIs w' n (m ++ [⟨a, b, z⟩]) → Kp [n] w w' → K (.tuple #[z, .int .i64 (m.length : Nat)]) w') : eG P (Instr.mapEntry T (.map (some n)) (keyV a b)) w K := by
  have hf : (Instr.findKey kt (keyV a b) (entsFrom 0 m).toArray.toList).run P w = .ok none w := by rw [← hn]; exact finding h
  refine eG_of (w' := setBlk w n (.map ((entsFrom 0 m).toArray.push ⟨keyV a b, z, m.length⟩) (m.length + 1))) (v := .tuple #[z, .int .i64 (m.length : Nat)]) ?_ (hK _ ?_ ((Kp.refl _ w).setBlk (.inl (by simp)) _))
  · simp only [Instr.mapEntry, Sem.run_bind, run_underlying h.hm, Result.andThen_ok, getO hm, h.ck, hf, h.zv, setO hm]
    rfl
  · unfold MapIs
    rw [heap_self (lt_of_blk hm), ents_app]
    simp
theorem map_entry_old (h : MapT P T kt et z) (hm : MapIs w n m) {i : Nat} (hi : i < m.length) (hf : findE m[i].a m[i].b m 0 = some (i, m[i].v)) {K : KW}
    (hK : ∀ w', MapIs w' n m → Kp [n] w w' → K (.tuple #[m[i].v, .int .i64 (i : Nat)]) w') : eG P (Instr.mapEntry T (.map (some n)) (keyV m[i].a m[i].b)) w K := by
  have hf' : (Instr.findKey kt (keyV m[i].a m[i].b) (entsFrom 0 m).toArray.toList).run P w = .ok (some (i, m[i].v)) w := by rw [← hf]; exact finding h
  have hg : (entsFrom 0 m).toArray[i]? = some ⟨keyV m[i].a m[i].b, m[i].v, i⟩ := by
    have := ents_get m 0 i hi
    simpa using this
  refine eG_of (w' := setBlk w n (.map ((entsFrom 0 m).toArray.modify i fun e => { e with key := keyV m[i].a m[i].b }) m.length)) (v := .tuple #[m[i].v, .int .i64 (i : Nat)]) ?_ (hK _ ?_ ((Kp.refl _ w).setBlk (.inl (by simp)) _))
  · simp only [Instr.mapEntry, Sem.run_bind, run_underlying h.hm, Result.andThen_ok, getO hm, h.ck, hf', hg, Option.map_some, Option.getD_some, keyStays, setO hm]
    rfl
  · unfold MapIs
    rw [heap_self (lt_of_blk hm)]
    congr 2
    apply Array.ext'
    simp only [Array.toList_modify]
    apply List.ext_getElem?
    intro j
    rw [List.getElem?_modify]
    by_cases hj : i = j
    · subst hj
      rw [ents_get m 0 i hi]
      simp
    · simp [hj]
theorem map_update_new (h : MapT P T kt et z) (hm : MapIs w n m) (hn : findE a b m 0 = none) {v : Value} {K : World → Prop}
    (hK : ∀ w', MapIs w' n (m ++ [⟨a, b, v⟩]) → Kp [n] w w' → K w') : uG P (Instr.mapUpdate T (.map (some n)) (keyV a b) v) w K := by
  have hf : (Instr.findKey kt (keyV a b) (entsFrom 0 m).toArray.toList).run P w = .ok none w := by rw [← hn]; exact finding h
  refine uG_of (w' := setBlk w n (.map ((entsFrom 0 m).toArray.push ⟨keyV a b, v, m.length⟩) (m.length + 1))) ?_ (hK _ ?_ ((Kp.refl _ w).setBlk (.inl (by simp)) _))
  · simp only [Instr.mapUpdate, Sem.run_bind, run_underlying h.hm, Result.andThen_ok, getO hm, h.ck, hf, setO hm]
  · unfold MapIs
    rw [heap_self (lt_of_blk hm), ents_app]
    simp
theorem born_find : ∀ (m : List ME) (k i : Nat), i < m.length → (entsFrom k m).findIdx? (fun e => (e.born : Int) == ((k + i : Nat) : Int)) = some i := by
  intro m
  induction m with
  | nil => intro k i h; simp at h
  | cons e r ih =>
    intro k i h
    cases i with
    | zero => simp [entsFrom, List.findIdx?_cons]
    | succ i =>
      have := ih (k + 1) i (by simpa using h)
      simp only [entsFrom, List.findIdx?_cons]
      have hne : ((k : Nat) : Int) ≠ ((k + (i + 1) : Nat) : Int) := by omega
      rw [show ((k + (i + 1) : Nat) : Int) = ((k + 1 + i : Nat) : Int) by omega] at hne ⊢
      simp only [beq_eq_false_iff_ne.2 hne, this]
      simp
theorem map_store (hm : MapIs w n m) {i : Nat} (hi : i < m.length) {v : Value} {K : World → Prop}
    (hK : ∀ w', MapIs w' n (m.set i { m[i] with v := v }) → Kp [n] w w' → K w') : uG P (Instr.entryStore T (.map (some n)) (.int .i64 (i : Nat)) v) w K := by
  refine uG_of (w' := setBlk w n (.map ((entsFrom 0 m).toArray.modify i fun e => { e with val := v }) m.length)) ?_ (hK _ ?_ ((Kp.refl _ w).setBlk (.inl (by simp)) _))
  · have hb : (entsFrom 0 m).toArray.findIdx? (fun e => (e.born : Int) == ((i : Nat) : Int)) = some i := by
      have := born_find m 0 i hi
      simpa using this
    have ha : (asInt (.int .i64 (i : Nat))).run P w = .ok (i : Int) w := rfl
    simp only [Instr.entryStore, Sem.run_bind, getO hm, Result.andThen_ok, ha, hb, setO hm]
  · unfold MapIs
    rw [heap_self (lt_of_blk hm)]
    congr 2
    · apply Array.ext'
      rw [Array.toList_modify]
      exact ents_modify m 0 i hi v
    · simp
end
end Go.Q

set_option linter.unusedVariables false
set_option linter.unusedSimpArgs false
namespace Go.Proofs
open Go Go.Q
open Tryz (prog)
theorem lname_spec {w : World} (s : List UInt8) {K : KW} (hK : K (.bool (nameOk s)) w) : callG prog 51 #[.string (str s)] w K := by
  refine Fn58_call ?_
  unfold nameOk at hK
  have e1 : ((1 : Int) ≤ (s.length : Int)) = (1 ≤ s.length) := by apply propext; omega
  by_cases h : 1 ≤ s.length
  · simpa [Fn58, Fn58_s0, e1, le64, h] using hK
  · simpa [Fn58, Fn58_s0, e1, le64, h] using hK
theorem zcPl : zc prog 101 = [.string (str []), .string (str [])].toArray := by kernel_rfl
theorem aggPl : aggO prog 101 = some true := by kernel_rfl
theorem szPl : szO prog 101 = some 2 := by kernel_rfl
theorem lvPl {b : Nat} {w : World} {c : Array Value} {T : TypeId} {fr : Nat × Nat} (hb : Live w b) (hs : c.size = 2) {K : Value → Prop} :
    qG prog (do loadVar 101 (← asAddr (.pointer (some ⟨b, 0, none⟩)))) (setBlk w b (.cells c T fr)) K = K (.agg c) := loadVar_of aggPl szPl (heap_self hb) hs
theorem of_spec7 {w : World} (s : SV) {K : KW} (hK : ∀ w', Kp [] w w' → K (keyV s.sku s.loc) w') : callG prog 53 #[sA s] w K := by
  refine Fn59_call ?_
  unfold Fn59 Fn59_s0 sA
  simp only [newG_k, cells_agg, zcPl]
  obtain ⟨p, hp⟩ : ∃ p, p = w.heap.size := ⟨_, rfl⟩
  obtain ⟨w1, hw1⟩ := ex_w (w' := w.alloc (.cells #[.string (str s.sku), .string (str s.loc), .int .i64 s.hand, .int .i64 s.held] 48))
  have hk1 : Kp [] w w1 := by rw [hw1]; exact kp_alloc
  have h1 : w1.heap[p]? = some (.cells #[.string (str s.sku), .string (str s.loc), .int .i64 s.hand, .int .i64 s.held] 48) := by rw [hw1, hp]; exact heap_new
  rw [← hw1, ← hp]
  obtain ⟨q, hq⟩ : ∃ q, q = w1.heap.size := ⟨_, rfl⟩
  obtain ⟨w2, hw2⟩ := ex_w (w' := w1.alloc (.cells [.string (str []), .string (str [])].toArray 101))
  have hk2 : Kp [] w1 w2 := by rw [hw2]; exact kp_alloc
  have h2 : w2.heap[q]? = some (.cells [.string (str []), .string (str [])].toArray 101) := by rw [hw2, hq]; exact heap_new
  rw [← hw2, ← hq]
  have h12 := hk2.get h1 (by simp)
  have l2 := live_of h2
  have hqs : w.heap.size ≤ q := by have := hk1.size; omega
  simp [-getElem?_pos, -Array.all_eq_true, -Array.getElem?_eq_getElem, -List.length_flatten, gz0, gz1, h12, h2, zcPl, bld_done, bld_if, offAt, putAt, lvPl, l2]
  exact hK _ ((hk1.trans' hk2).setBlk (.inr hqs) _)
theorem Compare_spec {w : World} (a b : List UInt8) {K : KW} (hK : K (.int .i64 (cmpL a b)) w) : callG prog 99 #[.string (str a), .string (str b)] w K := by
  refine Fn113_call ?_
  unfold Fn113 Fn113_s0
  refine Fn29_call ?_
  unfold Fn29 Fn29_s0
  exact nG_cmp Tryz.func137 (by kernel_rfl) (by kernel_rfl) (by kernel_rfl) (by kernel_rfl) a b hK
theorem Or_spec {w : World} {v : Value} {p q : Int} (hr : Rd w v 1 ([p, q].map intV)) {K : KW} (hK : K (.int .i64 (if p ≠ 0 then p else q)) w) : callG prog 98 #[v] w K := by
  refine Fn0_call ?_
  unfold Fn0 Fn0_s4 Fn0_s3 Fn0_L2
  rw [hr.lenL]
  obtain ⟨p0, a0, b0⟩ := hr.one (i := 0) (by simp) (x := .int .i64 p) (by simp [intV])
  obtain ⟨p1, a1, b1⟩ := hr.one (i := 1) (by simp) (x := .int .i64 q) (by simp [intV])
  have a0' : ∀ K : Value → Prop, ia 1 v (.int .i64 0) K = K p0 := fun K => a0 .i64 K
  have a1' : ∀ K : Value → Prop, ia 1 v (.int .i64 1) K = K p1 := fun K => a1 .i64 K
  refine loop_inv (fun m xs wi => (∃ i : Nat, i ≤ 2 ∧ m = 2 - i ∧ xs = [.int .i64 0, v, .int .i64 2, .int .i64 (i : Nat)] ∧ wi = w ∧ (1 ≤ i → p = 0) ∧ (2 ≤ i → q = 0))) ?_ (m := 2) ⟨0, by omega, rfl, rfl, rfl, by omega, by omega⟩
  rintro m N xs wi ⟨i, hi, rfl, rfl, rfl, hp, hq⟩ hN
  unfold Fn0_L2F Fn0_b1
  have : i = 0 ∨ i = 1 ∨ i = 2 := by omega
  rcases this with rfl | rfl | rfl
  · simp [-getElem?_pos, -Array.all_eq_true, -Array.getElem?_eq_getElem, -List.length_flatten, gz0, gz1, a0', b0]
    refine ⟨fun h => by rw [if_pos h] at hK; exact hK, fun h => ?_⟩
    have e : IntKind.i64.wrap 1 = 1 := by decide
    first | rw [e] | skip
    exact hN 1 _ wi (by omega) ⟨1, by omega, rfl, rfl, rfl, fun _ => h, by omega⟩
  · have h0 := hp (by omega)
    rw [if_neg (by simp [h0])] at hK
    simp [-getElem?_pos, -Array.all_eq_true, -Array.getElem?_eq_getElem, -List.length_flatten, gz0, gz1, a1', b1]
    refine ⟨fun h => hK, fun h => ?_⟩
    have e : IntKind.i64.wrap 2 = 2 := by decide
    first | rw [e] | skip
    exact hN 0 _ wi (by omega) ⟨2, by omega, rfl, rfl, rfl, fun _ => h0, fun _ => h⟩
  · have h0 := hp (by omega)
    have h1 := hq (by omega)
    rw [if_neg (by simp [h0]), h1] at hK
    simp [-getElem?_pos, -Array.all_eq_true, -Array.getElem?_eq_getElem, -List.length_flatten, gz0, gz1, Fn0_s0]
    exact hK
theorem order_spec {w : World} (s l s' l' : List UInt8) {K : KW} (hK : ∀ w', Kp [] w w' → K (.int .i64 (ordL s l s' l')) w') : callG prog 52 #[keyV s l, keyV s' l'] w K := by
  refine Fn60_call ?_
  unfold Fn60 Fn60_s0 keyV
  simp only [newG_k, cells_agg]
  obtain ⟨p, hp⟩ : ∃ p, p = w.heap.size := ⟨_, rfl⟩
  obtain ⟨w1, hw1⟩ := ex_w (w' := w.alloc (.cells #[.string (str s), .string (str l)] 101))
  have hk1 : Kp [] w w1 := by rw [hw1]; exact kp_alloc
  have h1 : w1.heap[p]? = some (.cells #[.string (str s), .string (str l)] 101) := by rw [hw1, hp]; exact heap_new
  rw [← hw1, ← hp]
  obtain ⟨q, hq⟩ : ∃ q, q = w1.heap.size := ⟨_, rfl⟩
  obtain ⟨w2, hw2⟩ := ex_w (w' := w1.alloc (.cells #[.string (str s'), .string (str l')] 101))
  have hk2 : Kp [] w1 w2 := by rw [hw2]; exact kp_alloc
  have h2 : w2.heap[q]? = some (.cells #[.string (str s'), .string (str l')] 101) := by rw [hw2, hq]; exact heap_new
  rw [← hw2, ← hq]
  have h12 := hk2.get h1 (by simp)
  simp [-getElem?_pos, -Array.all_eq_true, -Array.getElem?_eq_getElem, -List.length_flatten, gz0, gz1, h12, h2]
  refine Compare_spec s s' ?_
  simp [-getElem?_pos, -Array.all_eq_true, -Array.getElem?_eq_getElem, -List.length_flatten, gz0, gz1, h12, h2]
  refine Compare_spec l l' ?_
  refine bsl_rows (n := 1) (len := 2) (xs := [.int .i64 (cmpL s s'), .int .i64 (cmpL l l')]) (rows := [cmpL s s', cmpL l l'].map intV) (by omega) rfl rfl (by simp [intV]) (by omega) fun v3 w3 h3 => ?_
  refine Or_spec h3.rd ?_
  exact hK w3 (((hk1.trans' hk2).trans' kp_drew).trans' h3.kp)
end Go.Proofs

set_option linter.unusedVariables false
set_option linter.unusedSimpArgs false
namespace Go.Q
variable {P : Program}
section
variable {w : World} {k : Nat} {F G : List (List Value)} {T : Nat}
theorem wr_rows {b i : Nat} (h : w.heap[b]? = some (.cells F.flatten.toArray T (0, 0))) (hF : ∀ x ∈ F, x.length = k) (hG : ∀ x ∈ G, x.length = k) (hi : i + G.length ≤ F.length) (hone : G.flatten.all one = true) {K : World → Prop} :
    wrN w ⟨b, i * k, none⟩ G.flatten.toArray K = K (setBlk w b (.cells (F.take i ++ G ++ F.drop (i + G.length)).flatten.toArray T)) := by
  rw [wrN_mk, h]
  simp only
  have h1 := flat_len hF
  have h2 := flat_len hG
  have h3 : i * k + G.flatten.length ≤ F.flatten.length := by rw [h1, h2, ← Nat.add_mul]; exact Nat.mul_le_mul_right _ hi
  rw [splice_list, flat_splice_many hF hG hi]
  apply propext
  constructor
  · rintro ⟨_, h⟩; exact h
  · intro hk
    refine ⟨⟨by simpa [-List.length_flatten] using h3, by rw [okFr0]; trivial, by rw [List.all_toArray]; exact hone⟩, hk⟩
theorem rd_rows {b i m : Nat} (h : w.heap[b]? = some (.cells F.flatten.toArray T (0, 0))) (hF : ∀ x ∈ F, x.length = k) (hi : i + m ≤ F.length) {K : Array Value → Prop} :
    rdN w ⟨b, i * k, none⟩ (m * k) K = K ((F.drop i).take m).flatten.toArray := by
  rw [rdN_mk, h]
  simp only
  have h1 := flat_len hF
  have h3 : i * k + m * k ≤ F.flatten.length := by rw [h1, ← Nat.add_mul]; exact Nat.mul_le_mul_right _ hi
  rw [extract_list, flat_drop i hF, flat_take m (fun x hx => hF x (List.mem_of_mem_drop hx))]
  apply propext
  constructor
  · rintro ⟨_, h⟩; exact h
  · intro hk
    exact ⟨by simpa [-List.length_flatten] using h3, hk⟩
theorem cp_rows {b b' i j dl dc sl sc T' : Nat} {F' : List (List Value)} (h : w.heap[b]? = some (.cells F.flatten.toArray T (0, 0))) (hF : ∀ x ∈ F, x.length = k) (h' : w.heap[b']? = some (.cells F'.flatten.toArray T' (0, 0))) (hF' : ∀ x ∈ F', x.length = k)
    (hi : i + Nat.min sl dl ≤ F.length) (hj : j + Nat.min sl dl ≤ F'.length) (hone : ((F'.drop j).take (Nat.min sl dl)).flatten.all one = true) {K : KW} :
    cp k (.slice (some ⟨b, i * k, none⟩) dl dc) (.slice (some ⟨b', j * k, none⟩) sl sc) w K = K (.int .i64 (Nat.min sl dl : Nat)) (setBlk w b (.cells (F.take i ++ (F'.drop j).take (Nat.min sl dl) ++ F.drop (i + Nat.min sl dl)).flatten.toArray T)) := by
  unfold cp
  simp only [src]
  rw [rd_rows h' hF' hj]
  simp only [wrO, add_mk, Nat.add_zero]
  have hl : ((F'.drop j).take (Nat.min sl dl)).length = Nat.min sl dl := by rw [List.length_take, List.length_drop]; exact Nat.min_eq_left (by omega)
  rw [wr_rows h hF (fun x hx => hF' x (List.mem_of_mem_drop (List.mem_of_mem_take hx))) (by rw [hl]; exact hi) hone, hl]
end
theorem set_flat {k : Nat} : ∀ {F : List (List Value)} {i j : Nat} {v : Value}, (∀ x ∈ F, x.length = k) → (hi : i < F.length) → j < k → F.flatten.set (i * k + j) v = (F.set i (F[i].set j v)).flatten := by
  intro F
  induction F with
  | nil => intro i j v _ h; simp at h
  | cons x r ih =>
    intro i j v h hi hj
    have hx := h x (by simp)
    cases i with
    | zero =>
      simp only [List.flatten_cons, Nat.zero_mul, Nat.zero_add, List.set_cons_zero, List.getElem_cons_zero]
      rw [List.set_append_left _ _ (by omega)]
    | succ i =>
      simp only [List.flatten_cons, List.set_cons_succ, List.getElem_cons_succ]
      rw [List.set_append_right _ _ (by rw [hx, Nat.succ_mul]; omega)]
      rw [show (i + 1) * k + j - x.length = i * k + j by rw [hx, Nat.succ_mul]; omega]
      rw [ih (fun y hy => h y (by simp [hy])) (by simpa using hi) hj]
theorem RowsAt.upd {w : World} {v : Value} {k : Nat} {rows : List (List Value)} {S : List Nat} (h : RowsAt w v k rows S) {i : Nat} (hi : i < rows.length) :
    ∃ bl, S = [bl] ∧ (∀ kd K, ia k v (.int kd i) K = K (.pointer (some ⟨bl, i * k, none⟩))) ∧ (∀ j (hj : j < rows[i].length) K, rd1 w ⟨bl, i * k + j, none⟩ K = K rows[i][j]) ∧
      ∀ j, j < k → ∀ y, one y = true → ∀ K : World → Prop, (∀ w', Kp S w w' → RowsAt w' v k (rows.set i (rows[i].set j y)) S → K w') → wr1 w ⟨bl, i * k + j, none⟩ y K := by
  have hrow := h.row (List.getElem_mem hi)
  obtain ⟨bl', T', c', hb', hh', hia', _, _, hat'⟩ := h.at hi
  rcases h with ⟨h1, h2, h3⟩ | ⟨bl, F, T, h1, h2, h3, h4, h5, h6⟩
  · rw [h2] at hi; cases hi
  · rw [h2] at hb'
    simp only [List.mem_singleton] at hb'
    subst hb'
    refine ⟨bl', h2, hia', fun j hj K => ?_, fun j hj y hy K hK => ?_⟩
    · have := hat' j (by omega)
      rw [List.getElem?_eq_getElem hj] at this
      rw [rd1_mk, hh']
      simp only [this]
    · have hiF : i < F.length := by omega
      have hfl := flat_len h4
      have hlt : i * k + j < F.flatten.length := by
        have : (i + 1) * k ≤ F.length * k := Nat.mul_le_mul_right _ hiF
        rw [Nat.succ_mul] at this
        omega
      have hrowF : F[i] = rows[i] := by
        have e : rows[i]? = F[i]? := by rw [← h5, List.getElem?_take_of_lt (by omega)]
        rw [List.getElem?_eq_getElem hi, List.getElem?_eq_getElem hiF] at e
        injection e with e
        exact e.symm
      rw [wr1_mk, h3]
      refine ⟨⟨by simpa [-List.length_flatten] using hlt, by rw [okFr0]; trivial⟩, ?_⟩
      have e : F.flatten.toArray.setIfInBounds (i * k + j) y = (F.set i (F[i].set j y)).flatten.toArray := by
        rw [← set_flat h4 hiF hj]; simp
      rw [e]
      refine hK _ ((Kp.refl _ _).setBlk (.inl (by rw [h2]; simp)) _) (.inr ⟨bl', F.set i (F[i].set j y), T, by rw [h1]; simp, h2, heap_self (live_of h3), fun x hx => ?_, ?_, by simpa using h6⟩)
      · rcases List.mem_or_eq_of_mem_set hx with hx | hx
        · exact h4 x hx
        · rw [hx, List.length_set]; exact h4 _ (List.getElem_mem hiF)
      · rw [List.length_set, List.take_set, h5, hrowF]
theorem RowsAt.updM {α : Type} {f : α → List Value} {L : List α} {w : World} {v : Value} {k : Nat} {S : List Nat} (h : RowsAt w v k (L.map f) S) {i : Nat} (hi : i < L.length) :
    ∃ bl, S = [bl] ∧ (∀ K, ia k v (.int .i64 i) K = K (.pointer (some ⟨bl, i * k, none⟩))) ∧ (∀ j x, (f L[i])[j]? = some x → ∀ K, ld1 (.pointer (some ⟨bl, i * k + j, none⟩)) w K = K x) ∧
      ∀ j, j < k → ∀ y a, one y = true → f a = (f L[i]).set j y → ∀ K : World → Prop, (∀ w', Kp S w w' → RowsAt w' v k ((L.set i a).map f) S → K w') → st1 (.pointer (some ⟨bl, i * k + j, none⟩)) y w K := by
  have hi' : i < (L.map f).length := by simpa using hi
  obtain ⟨bl, h1, h2, h3, h4⟩ := h.upd hi'
  have e : (L.map f)[i] = f L[i] := by simp
  refine ⟨bl, h1, fun K => h2 .i64 K, fun j x hx K => ?_, fun j hj y a hy hf K hK => ?_⟩
  · obtain ⟨hj, hx⟩ := List.getElem?_eq_some_iff.1 hx
    rw [ld1_p, h3 j (by rw [e]; exact hj)]
    have : (L.map f)[i][j]'(by rw [e]; exact hj) = x := by rw [← hx]; congr 1
    rw [this]
  · rw [st1_p]
    refine ⟨hy, h4 j hj y hy K fun w' hk hr => hK w' hk ?_⟩
    rw [List.map_set, hf, ← e]
    exact hr
theorem RowsAt.updK {α : Type} {f : α → List Value} {L : List α} {w : World} {v : Value} {k : Nat} {S : List Nat} (h : RowsAt w v k (L.map f) S) {i : Nat} (hi : i < L.length) :
    ∃ bl, S = [bl] ∧ (∀ K, ia k v (.int .i64 i) K = K (.pointer (some ⟨bl, i * k, none⟩))) ∧ (∀ w1, Kp [] w w1 → ∀ j x, (f L[i])[j]? = some x → ∀ K, ld1 (.pointer (some ⟨bl, i * k + j, none⟩)) w1 K = K x) ∧
      ∀ w1, Kp [] w w1 → ∀ j, j < k → ∀ y a, one y = true → f a = (f L[i]).set j y → ∀ K : World → Prop, (∀ w', Kp S w1 w' → RowsAt w' v k ((L.set i a).map f) S → K w') → st1 (.pointer (some ⟨bl, i * k + j, none⟩)) y w1 K := by
  obtain ⟨bl, h1, h2, _, _⟩ := h.updM hi
  refine ⟨bl, h1, h2, fun w1 hk j x hx K => ?_, fun w1 hk j hj y a hy hf K hK => ?_⟩
  · obtain ⟨bl', g1, _, g3, _⟩ := (h.keep hk (by simp)).updM hi
    have : bl' = bl := by rw [h1] at g1; simpa using g1.symm
    subst this
    exact g3 j x hx K
  · obtain ⟨bl', g1, _, _, g4⟩ := (h.keep hk (by simp)).updM hi
    have : bl' = bl := by rw [h1] at g1; simpa using g1.symm
    subst this
    exact g4 j hj y a hy hf K hK
theorem rep_rows {k : Nat} {z : List Value} (hk : 0 < k) (hz : z.length = k) (n : Nat) : rep z.toArray (n * k) = (List.replicate n z).flatten.toArray := by
  apply Array.ext
  · simp [rep, hz]
  · intro i h1 h2
    have hi : i < n * k := by simpa [rep] using h1
    simp only [rep, Array.getElem_map, Array.getElem_range, List.size_toArray, hz]
    have hm : i % k < k := Nat.mod_lt _ hk
    have hd : i / k < n := (Nat.div_lt_iff_lt_mul hk).2 hi
    have hfl : ((List.replicate n z).flatten.drop ((i / k) * k)).take k = z := by
      rw [flat_get (k := k) (by intro x hx; rw [List.mem_replicate] at hx; rw [hx.2, hz]) (by simpa using hd)]
      simp
    have hidx : i / k * k + i % k = i := by rw [Nat.mul_comm]; exact Nat.div_add_mod i k
    have e2 := congrArg (fun l => l[i % k]?) hfl
    simp only [List.getElem?_take_of_lt hm, List.getElem?_drop, hidx] at e2
    have h2' : i < (List.replicate n z).flatten.length := by simpa using h2
    rw [List.getElem?_eq_getElem h2', List.getElem?_eq_getElem (by omega)] at e2
    injection e2 with e2
    rw [List.getElem_toArray, e2]
    simp [hz, hm]
theorem appZ {ts : Array TypeId} {t t1 e ty : TypeId} {k1 : IntKind} {i : TypeInfo} {bl o sl sc n : Nat} {w : World} {c : Array Value} {T : TypeId} {fr : Nat × Nat} (ht : ts[0]? = some t) (hu : P.underlying t = some (.slice e))
    (ht1 : ts[1]? = some t1) (hu1 : P.underlying t1 = some (.int k1)) (hi : P.info? e = some i) (hz : hasZ P e i.size = true) (hb : 0 < i.bytes) (hn : n < 2 ^ 40) (hsl : sl < 2 ^ 40) (hbn : i.bytes < 2 ^ 6) (hlt : sc < sl + n) (hsz : 0 < i.size)
    (hh : w.heap[bl]? = some (.cells c T fr)) (hc : o + sl * i.size ≤ c.size) (hpos : 0 < n) {K : KW} (hsc : (sl + n) < 2 ^ 40)
    (hK : ∀ cap, sl + n ≤ cap → cap < 2 ^ 63 → K (.slice (some ⟨w.heap.size, 0, none⟩) (sl + n) cap) (w.drew.alloc (.cells (c.extract o (o + sl * i.size) ++ rep (zc P e) (n * i.size) ++ rep (zc P e) ((cap - (sl + n)) * i.size)) e))) :
    eG P (Builtin.append_ ts ty #[.slice (some ⟨bl, o, none⟩) sl sc, .int .i64 n]) w K := by
  obtain ⟨z, hzr, hzc, hzs⟩ := hasZ_run hz w.drew
  have hns : szO P e = some i.size := by simp [szO, hi]
  let cap := (sl + n) + w.tape w.drawn (.appendCap (sl + n) sc e) % (2 ^ 63 - (sl + n))
  have hlt2 : w.tape w.drawn (.appendCap (sl + n) sc e) % (2 ^ 63 - (sl + n)) < 2 ^ 63 - (sl + n) := Nat.mod_lt _ (by omega)
  refine ⟨_, _, ?_, hK cap (Nat.le_add_right _ _) (by omega)⟩
  have hch : (choose (.appendCap (sl + n) sc e)).run P w = .ok cap w.drew := rfl
  have hrd : rdN w ⟨bl, o, none⟩ (sl * i.size) (fun cs => cs = c.extract o (o + sl * i.size)) := by rw [rdN_mk, hh]; exact ⟨hc, rfl⟩
  obtain ⟨old, hold, hoe, _⟩ := rdN_run (P := P) hrd
  subst hoe
  have hnx := nextslicecap_le hlt
  have hgt : ¬ Builtin.nextslicecap (sl + n) sc * i.bytes > 2 ^ 48 := by
    have : Builtin.nextslicecap (sl + n) sc * i.bytes ≤ (2 * (sl + n)) * 2 ^ 6 := Nat.mul_le_mul hnx (by omega)
    omega
  have hbz : ¬ i.bytes = 0 := by omega
  have hask : ∀ (b : Nat) (w : World), (askRoom b).run P w = .ok () w := by
    intro b w; unfold askRoom; split <;> simp [mark, Sem.run, pure]
  have hwn : IntKind.i64.wrap (n : Int) = n := wrap64 _ (by omega) (by omega)
  have hn0 : ¬ ((n : Int) < 0) := by omega
  have hnb : ¬ ((n : Int) * (i.bytes : Int) > 2 ^ 48) := by
    have : n * i.bytes ≤ 2 ^ 40 * 2 ^ 6 := Nat.mul_le_mul (by omega) (by omega)
    have h2 : ((n * i.bytes : Nat) : Int) ≤ ((2 ^ 40 * 2 ^ 6 : Nat) : Int) := by exact_mod_cast this
    rw [Int.natCast_mul] at h2
    omega
  have hnz : ¬ (n * i.size = 0) := by rw [Nat.mul_eq_zero]; omega
  have hmax : ¬ (((sl + n : Nat) : Int) > IntKind.i64.max) := by
    have : IntKind.i64.max = 9223372036854775807 := by decide
    rw [this]; omega
  have holdD : (loadCells ⟨bl, o, none⟩ (sl * i.size)).run P w.drew = .ok (c.extract o (o + sl * i.size)) w.drew := hold w.drew rfl
  have has : ∀ w : World, (asInt (.int .i64 (n : Int))).run P w = .ok (n : Int) w := fun _ => rfl
  unfold Builtin.append_
  simp only [ht, ht1, has, List.getElem?_toArray, gz0, gz1, Sem.run_bind, run_underlying hu, run_underlying hu1, Result.andThen_ok, szO_some hns, pure, Sem.run, Int.toNat_natCast,
    if_true, hwn, hn0, if_false, hnb, run_typeInfo w hi, show ¬ (sl + n ≤ sc) from by omega, hmax, false_and, hgt, run_typeInfo w.drew hi, hch, hask, Builtin.firstCells, holdD, Bool.not_true, Bool.false_eq_true, hnz, hzr, hzc, zeroCells_eq hzs, newRow_run]
  rfl
theorem nG_over {f : FuncId} {fn : Func} {tS tR e : TypeId} {n : Nat} (hf : P.funcs[f]? = some fn) (hname : (fn.name == "runtime.NumGoroutine") = false) (hb : fn.body.isNone = true) (hn : Extern.findNext fn = none) (he : Extern.find fn = some (Extern.SlicesOverlaps.overlaps #[tS, tS] #[tR]))
    (hu : P.underlying tS = some (.slice e)) (hz : szO P e = some n) {w : World} {ba oa la ca bb ob lb cb TA TB : Nat} {cA cB : Array Value} (hne : ba ≠ bb) (hA : w.heap[ba]? = some (.cells cA TA (0, 0))) (hB : w.heap[bb]? = some (.cells cB TB (0, 0))) (hcB : cB.size ≠ 0)
    {K : KW} (hK : K (.bool false) w) : nG P (callFunc f #[.slice (some ⟨ba, oa, none⟩) la ca, .slice (some ⟨bb, ob, none⟩) lb cb]) w K := by
  refine ⟨_, w, ?_, hK⟩
  rw [run_callFunc_extern hf hname hb hn he]
  rw [Lib.run_overlaps_apart w tS tR e hu n (fun w => szO_some hz w) ⟨ba, oa, none⟩ ⟨bb, ob, none⟩ la ca lb cb hne TA TB cA.size cB.size (by simp [World.shape?, hA]) (by simp [World.shape?, hB]) hcB (by simp [World.frozen?, hA]) (by simp [World.frozen?, hA])]
  rfl
def insG (P : Program) (I T k bytes ST : Nat) (fO fR : FuncId) (R : KW) (x0 x1 x2 : Value) (w : World) : Prop :=
  slL k x0 (some x1) none fun t12 =>
  lenL x2 fun t14 =>
  qG P (bq .eql I (.tmp 15) (.const (.int .i64 0)) t14 (.int .i64 0)) w fun t16 =>
  bV t16
  (R x0 w)
  (lenL x0 fun t19 =>
  qG P (bq .eql I (.tmp 20) (.tmp 21) x1 t19) w fun t22 =>
  bV t22
  (app T k bytes (zc P T) x0 x2 w fun t25 w =>
  R t25 w)
  (qG P (bq .add I (.tmp 26) (.tmp 27) t19 t14) w fun t28 =>
  qG P (Builtin.cap_ #[ST] I #[x0]) w fun t30 =>
  qG P (bq .gtr I (.tmp 28) (.tmp 30) t28 t30) w fun t31 =>
  bV t31
  (slL k x0 none (some x1) fun t34 =>
  qG P (bq .add I (.tmp 35) (.tmp 36) t19 t14) w fun t37 =>
  qG P (bq .sub I (.tmp 37) (.tmp 38) t37 x1) w fun t39 =>
  eG P (Builtin.append_ #[ST, I] ST #[t34, t39]) w fun t40 w =>
  slL k t40 (some x1) none fun t43 =>
  cp k t43 x2 w fun t45 w =>
  qG P (bq .add I (.tmp 47) (.tmp 48) x1 t14) (World.drew w) fun t49 =>
  slL k t40 (some t49) none fun t50 =>
  slL k x0 (some x1) none fun t53 =>
  cp k t50 t53 (World.drew w) fun t54 w =>
  R t40 w)
  (qG P (bq .add I (.tmp 57) (.tmp 58) t19 t14) w fun t59 =>
  slL k x0 none (some t59) fun t60 =>
  qG P (bq .add I (.tmp 63) (.tmp 64) x1 t14) w fun t65 =>
  slL k t60 (some t65) none fun t66 =>
  nG P (callFunc fO #[x2, t66]) w fun t67 w =>
  qG P (Op.unary .not t67) w fun t68 =>
  bV t68
  (qG P (bq .add I (.tmp 70) (.tmp 71) x1 t14) (World.drew w) fun t72 =>
  slL k t60 (some t72) none fun t73 =>
  slL k t60 (some x1) none fun t76 =>
  cp k t73 t76 (World.drew w) fun t77 w =>
  slL k t60 (some x1) none fun t80 =>
  cp k t80 x2 w fun t82 w =>
  R t60 w)
  (slL k t60 (some t19) none fun t86 =>
  cp k t86 x2 w fun t88 w =>
  slL k t60 (some x1) none fun t91 =>
  callG P fR #[t91, t14] w fun t93 w =>
  R t60 w))))
theorem run_cap {ts : Array TypeId} {t e ty : TypeId} {a : Option Addr} {n c : Nat} {w : World} (ht : ts[0]? = some t) (hu : P.underlying t = some (.slice e)) : (Builtin.cap_ ts ty #[.slice a n c]).run P w = .ok (.int .i64 c) w := by
  unfold Builtin.cap_
  simp only [ht, List.getElem?_toArray, List.getElem?_cons_zero, Sem.run_bind, run_underlying hu, Result.andThen_ok]
  rfl
theorem ins_spec {I T k bytes ST : Nat} {fO fR : FuncId} {i : TypeInfo} {z : List Value} {kd : IntKind} (hI : P.underlying I = some (.int kd)) (hST : P.underlying ST = some (.slice T)) (hi : P.info? T = some i) (hik : i.size = k) (hib : i.bytes = bytes) (hz : hasZ P T k = true) (hzc : zc P T = z.toArray) (hk : 0 < k) (hb : 0 < bytes) (hb6 : bytes < 2 ^ 6)
    (hov : ∀ (w : World) (ba oa la ca bb ob lb cb TA TB : Nat) (cA cB : Array Value), ba ≠ bb → w.heap[ba]? = some (.cells cA TA (0, 0)) → w.heap[bb]? = some (.cells cB TB (0, 0)) → cB.size ≠ 0 → ∀ K : KW, K (.bool false) w → nG P (callFunc fO #[.slice (some ⟨ba, oa, none⟩) la ca, .slice (some ⟨bb, ob, none⟩) lb cb]) w K)
    {w : World} {v x : Value} {rows : List (List Value)} {row : List Value} {S SX : List Nat} (h : RowsAt w v k rows S) (hx : RowsAt w x k [row] SX) (hd : ∀ q ∈ SX, q ∉ S) (hone : rows.flatten.all one = true) (hone1 : row.all one = true) (hl : rows.length < 2 ^ 30) {p : Nat} (hp : p ≤ rows.length)
    {R : KW} (hR : ∀ v' w' S', RowsAt w' v' k (rows.take p ++ [row] ++ rows.drop p) S' → Kp S w w' → (∀ y ∈ S', y ∈ S ∨ w.heap.size ≤ y) → R v' w') : insG P I T k bytes ST fO fR R v (.int .i64 p) x w := by
  have hzk : z.length = k := by
    obtain ⟨_, _, _, h3⟩ := hasZ_run hz w
    rw [hzc] at h3; simpa using h3
  have hrowk : row.length = k := hx.row (by simp)
  obtain ⟨vx, cx, hvx, _⟩ := hx.len
  obtain ⟨va, vc, hva, hvc⟩ := h.len
  have hxs := hx.rd.src
  unfold insG
  by_cases hpe : p = rows.length
  · subst hpe
    have happ : app T k bytes (zc P T) v x w fun t25 w => R t25 w := by
      rw [hzc]
      refine rows_app h hk hzk (G := [row]) (by simpa using hrowk) (by simpa using hone1) hxs ?_ (by simp; omega) fun v' w' S' h' hk' hS' => hR v' w' S' (by simpa using h') hk' hS'
      have : 2 * (rows.length + 1) * bytes ≤ 2 ^ 32 * 2 ^ 6 := Nat.mul_le_mul (by omega) (by omega)
      simpa using Nat.le_trans this (by decide)
    rw [hva, hvx] at happ ⊢
    have h1 : (rows.length : Int) ≤ vc := by omega
    simp [h1]
    exact happ
  · have hplt : p < rows.length := by omega
    rcases h with ⟨h1, h2, h3⟩ | ⟨bl, F, TT, h1, h2, h3, h4, h5, h6⟩
    · rw [h2] at hplt; simp at hplt
    · rcases hx with ⟨_, g2, _⟩ | ⟨xb, FX, TX, g1, g2, g3, g4, g5, g6⟩
      · simp at g2
      · simp only [List.length_cons, List.length_nil] at g1 g5 g6
        have hxbl : xb ≠ bl := by
          have := hd xb (by rw [g2]; simp)
          rw [h2] at this
          simpa using this
        have e1 : IntKind.i64.wrap ((rows.length : Int) + 1) = ((rows.length + 1 : Nat) : Int) := by rw [w64 (by omega) (by omega)]; simp
        have e2 : IntKind.i64.wrap ((p : Int) + 1) = ((p + 1 : Nat) : Int) := by rw [w64 (by omega) (by omega)]; simp
        have e3 : IntKind.i64.wrap (((rows.length + 1 : Nat) : Int) - p) = ((rows.length + 1 - p : Nat) : Int) := by rw [w64 (by omega) (by omega)]; omega
        have hrk : ∀ y ∈ rows, y.length = k := fun y hy => by rw [← h5] at hy; exact h4 y (List.mem_of_mem_take hy)
        have hFp : (F.drop p).take (rows.length - p) = rows.drop p := by rw [← h5, List.drop_take, h5]; 
        have hFt : F.take p = rows.take p := by
          have e := congrArg (List.take p) h5
          rw [List.take_take, Nat.min_eq_left (by omega)] at e
          exact e
        have hXr : (FX.drop 0).take 1 = [row] := by simpa using g5
        have honed : (rows.drop p).flatten.all one = true := by
          rw [List.all_eq_true] at hone ⊢
          intro y hy
          obtain ⟨r, hr, hyr⟩ := List.mem_flatten.1 hy
          exact hone y (List.mem_flatten.2 ⟨r, List.mem_of_mem_drop hr, hyr⟩)
        have nn : Nat.min 1 (rows.length + 1 - p) = 1 := Nat.min_eq_left (by omega)
        have nm : Nat.min (rows.length - p) (rows.length - p) = rows.length - p := Nat.min_self _
        have nm2 : Nat.min (rows.length + 1 - p) (rows.length - p) = rows.length - p := Nat.min_eq_right (by omega)
        subst h1; subst g1
        have hpF : p < F.length := by omega
        have c1 : (p : Int) ≤ F.length := by omega
        have c2 : ¬ ((p : Int) = rows.length) := by omega
        have c3 : (p : Int) ≤ rows.length := by omega
        have c4 : ¬ (F.length = p) := by omega
        have hpn : rows.length + 1 - p = rows.length - p + 1 := by omega
        by_cases hroom : rows.length + 1 ≤ F.length
        · have c5 : ¬ ((F.length : Int) < ((rows.length + 1 : Nat) : Int)) := by omega
          have c6 : ((rows.length + 1 : Nat) : Int) ≤ F.length := by omega
          have c7 : ¬ (F.length = p + 1) := by omega
          have c8 : ((p + 1 : Nat) : Int) ≤ ((rows.length + 1 : Nat) : Int) := by omega
          have hne : F.flatten.toArray.size ≠ 0 := by
            have := flat_len h4
            have h0 : 0 < F.length * k := Nat.mul_pos (by omega) hk
            simp only [List.size_toArray]
            omega
          simp [c1, c2, c3, c4, e1, e2, e3, c5, c6, c7, c8, qG_of (run_cap (ts := #[ST]) (ty := I) rfl hST), -List.length_flatten]
          refine ⟨by omega, fun hh => by omega, fun _ => ⟨⟨by omega, by omega⟩, by omega, ?_⟩⟩
          refine hov w xb 0 1 FX.length bl ((p + 1) * k) _ _ _ _ _ _ hxbl g3 h3 hne _ ?_
          simp
          refine ⟨by omega, by omega, ?_⟩
          have k1 : (F.drop p).take (Nat.min (rows.length + 1 - p) (rows.length - p)) = rows.drop p := by rw [nm2, hFp]
          rw [cp_rows (w := w.drew) h3 h4 h3 h4 (by rw [nm2]; omega) (by rw [nm2]; omega) (by rw [k1]; exact honed), k1]
          have k2 : p + 1 + Nat.min (rows.length + 1 - p) (rows.length - p) = rows.length + 1 := by rw [nm2]; omega
          rw [k2]
          obtain ⟨F2, hF2⟩ : ∃ F2, F2 = F.take (p + 1) ++ rows.drop p ++ F.drop (rows.length + 1) := ⟨_, rfl⟩
          rw [← hF2]
          obtain ⟨w2, hw2⟩ : ∃ w2, w2 = setBlk w.drew bl (.cells F2.flatten.toArray TT) := ⟨_, rfl⟩
          have q1 : w2.heap[bl]? = some (.cells F2.flatten.toArray TT (0, 0)) := by rw [hw2]; exact heap_self (live_of h3)
          have q2 : w2.heap[xb]? = some (.cells FX.flatten.toArray TX (0, 0)) := by rw [hw2, heap_ne (by omega)]; exact g3
          have k21 : Kp S w w2 := by rw [hw2]; exact (Kp.refl _ w).drew.setBlk (.inl (by rw [h2]; simp)) _
          have hF2k : ∀ y ∈ F2, y.length = k := by
            intro y hy
            rw [hF2, List.mem_append, List.mem_append] at hy
            rcases hy with (hy | hy) | hy
            · exact h4 y (List.mem_of_mem_take hy)
            · exact hrk y (List.mem_of_mem_drop hy)
            · exact h4 y (List.mem_of_mem_drop hy)
          have hF2l : F2.length = F.length := by rw [hF2]; simp; omega
          have hF2t : F2.take p = rows.take p := by
            rw [hF2, List.append_assoc, List.take_append_of_le_length (by simp; omega), List.take_take, Nat.min_eq_left (by omega), hFt]
          have hF2d : F2.drop (p + 1) = rows.drop p ++ F.drop (rows.length + 1) := by
            rw [hF2, List.append_assoc]
            exact List.drop_left' (by simp; omega)
          rw [← hw2]
          refine ⟨by omega, ?_⟩
          have z0 : (⟨xb, 0, none⟩ : Addr) = ⟨xb, 0 * k, none⟩ := by simp
          have k3 : (FX.drop 0).take (Nat.min 1 (rows.length + 1 - p)) = [row] := by rw [nn]; exact hXr
          rw [z0, cp_rows (w := w2) q1 hF2k q2 g4 (by rw [nn]; omega) (by rw [nn]; omega) (by rw [k3]; simpa using hone1), k3, nn, hF2t, hF2d]
          refine hR _ _ [bl] (.inr ⟨bl, rows.take p ++ [row] ++ (rows.drop p ++ F.drop (rows.length + 1)), TT, ?_, rfl, heap_self (live_of q1), ?_, ?_, ?_⟩) (k21.setBlk (.inl (by rw [h2]; simp)) _) (fun y hy => .inl (by rw [h2]; exact hy))
          · congr 1
            · simp; omega
            · simp; omega
          · intro y hy
            rw [List.mem_append, List.mem_append, List.mem_append] at hy
            rcases hy with (hy | hy) | hy | hy
            · exact hrk y (List.mem_of_mem_take hy)
            · rw [List.mem_singleton] at hy; rw [hy]; exact hrowk
            · exact hrk y (List.mem_of_mem_drop hy)
            · exact h4 y (List.mem_of_mem_drop hy)
          · rw [← List.append_assoc]
            exact List.take_left' rfl
          · simp
        · have c5 : ((F.length : Int) < ((rows.length + 1 : Nat) : Int)) := by omega
          have c8 : ((p + 1 : Nat) : Int) ≤ ((rows.length + 1 : Nat) : Int) := by omega
          have e3' : IntKind.i64.wrap ((rows.length : Int) + 1 - p) = ((rows.length + 1 - p : Nat) : Int) := by rw [w64 (by omega) (by omega)]; omega
          simp [c1, c2, c3, c4, e1, e2, e3, e3', c5, qG_of (run_cap (ts := #[ST]) (ty := I) rfl hST), -List.length_flatten]
          refine ⟨by omega, fun _ => ?_, fun hh => by omega⟩
          subst hik; subst hib
          refine appZ (t := ST) (e := T) (t1 := I) rfl hST rfl hI hi hz hb (by omega) (by omega) hb6 (by omega) hk h3 ?_ (by omega) (by omega) fun cap hcap hcap2 => ?_
          · have := flat_len h4
            have h0 : p * i.size ≤ F.length * i.size := Nat.mul_le_mul_right _ (by omega)
            simp only [List.size_toArray]
            omega
          have hpn2 : p + (rows.length + 1 - p) = rows.length + 1 := by omega
          rw [hpn2] at hcap ⊢
          have c9 : ¬ (cap = p) := by omega
          have c10 : ¬ (cap = p + 1) := by omega
          have hzl : ∀ m, rep (zc P T) (m * i.size) = (List.replicate m z).flatten.toArray := fun m => by rw [hzc]; exact rep_rows hk hzk m
          have hfe : F.flatten.toArray.extract 0 (0 + p * i.size) = (rows.take p).flatten.toArray := by
            rw [extract_list, List.drop_zero, flat_take p h4, hFt]
          rw [hzl, hzl, hfe]
          obtain ⟨F1, hF1⟩ : ∃ F1, F1 = rows.take p ++ List.replicate (rows.length + 1 - p) z ++ List.replicate (cap - (rows.length + 1)) z := ⟨_, rfl⟩
          have hfl : (rows.take p).flatten.toArray ++ (List.replicate (rows.length + 1 - p) z).flatten.toArray ++ (List.replicate (cap - (rows.length + 1)) z).flatten.toArray = F1.flatten.toArray := by
            rw [hF1]; apply Array.toList_inj.1; simp only [Array.toList_append, List.flatten_append]
          rw [hfl]
          obtain ⟨nb, hnb⟩ : ∃ nb, nb = w.heap.size := ⟨_, rfl⟩
          obtain ⟨w1, hw1⟩ : ∃ w1, w1 = w.drew.alloc (.cells F1.flatten.toArray T) := ⟨_, rfl⟩
          have q1 : w1.heap[nb]? = some (.cells F1.flatten.toArray T (0, 0)) := by rw [hw1, hnb]; exact heap_new
          have q2 : w1.heap[xb]? = some (.cells FX.flatten.toArray TX (0, 0)) := by rw [hw1, heap_old (by exact live_of g3)]; exact g3
          have q3 : w1.heap[bl]? = some (.cells F.flatten.toArray TT (0, 0)) := by rw [hw1, heap_old (by exact live_of h3)]; exact h3
          have k1 : Kp S w w1 := by rw [hw1]; exact (Kp.refl _ w).drew.alloc _
          rw [← hw1, ← hnb]
          have hxl := lt_of_blk g3
          have hbll := lt_of_blk h3
          have hF1k : ∀ y ∈ F1, y.length = i.size := by
            intro y hy
            rw [hF1, List.mem_append, List.mem_append] at hy
            rcases hy with (hy | hy) | hy
            · exact hrk y (List.mem_of_mem_take hy)
            · rw [List.mem_replicate] at hy; rw [hy.2, hzk]
            · rw [List.mem_replicate] at hy; rw [hy.2, hzk]
          have hF1l : F1.length = cap := by rw [hF1]; simp; omega
          have hF1t : F1.take p = rows.take p := by
            rw [hF1, List.append_assoc]; exact List.take_left' (by simp; omega)
          simp [c9, c10]
          refine ⟨by omega, ?_⟩
          have z0 : (⟨xb, 0, none⟩ : Addr) = ⟨xb, 0 * i.size, none⟩ := by simp
          have k3 : (FX.drop 0).take (Nat.min 1 (rows.length + 1 - p)) = [row] := by rw [nn]; exact hXr
          rw [z0, cp_rows (w := w1) q1 hF1k q2 g4 (by rw [nn]; omega) (by rw [nn]; omega) (by rw [k3]; simpa using hone1), k3, nn, hF1t]
          obtain ⟨F2, hF2⟩ : ∃ F2, F2 = rows.take p ++ [row] ++ F1.drop (p + 1) := ⟨_, rfl⟩
          obtain ⟨w2, hw2⟩ : ∃ w2, w2 = setBlk w1 nb (.cells F2.flatten.toArray T) := ⟨_, rfl⟩
          have r1 : w2.heap[nb]? = some (.cells F2.flatten.toArray T (0, 0)) := by rw [hw2]; exact heap_self (live_of q1)
          have r3 : w2.heap[bl]? = some (.cells F.flatten.toArray TT (0, 0)) := by rw [hw2, heap_ne (by omega)]; exact q3
          have k2 : Kp S w w2 := by rw [hw2]; exact k1.setBlk (.inr (by omega)) _
          rw [← hF2, ← hw2]
          have hF2k : ∀ y ∈ F2, y.length = i.size := by
            intro y hy
            rw [hF2, List.mem_append, List.mem_append] at hy
            rcases hy with (hy | hy) | hy
            · exact hrk y (List.mem_of_mem_take hy)
            · rw [List.mem_singleton] at hy; rw [hy]; exact hrowk
            · exact hF1k y (List.mem_of_mem_drop hy)
          have hF2l : F2.length = cap := by rw [hF2]; simp; omega
          have hF2t : F2.take (p + 1) = rows.take p ++ [row] := by
            rw [hF2]; exact List.take_left' (by simp; omega)
          have c11 : (p : Int) + 1 ≤ (rows.length : Int) + 1 := by omega
          refine ⟨by omega, by omega, ?_⟩
          have k4 : (F.drop p).take (Nat.min (rows.length - p) (rows.length - p)) = rows.drop p := by rw [nm, hFp]
          rw [cp_rows (w := w2.drew) r1 hF2k r3 h4 (by rw [nm]; omega) (by rw [nm]; omega) (by rw [k4]; exact honed), k4, hF2t, nm]
          refine hR _ _ [nb] (.inr ⟨nb, rows.take p ++ [row] ++ rows.drop p ++ F2.drop (p + 1 + (rows.length - p)), T, ?_, rfl, heap_self (live_of r1), ?_, ?_, ?_⟩) (k2.drew.setBlk (.inr (by omega)) _) (fun y hy => by simp at hy; omega)
          · congr 1
            · simp; omega
            · simp; omega
          · intro y hy
            rw [List.mem_append, List.mem_append, List.mem_append] at hy
            rcases hy with ((hy | hy) | hy) | hy
            · exact hrk y (List.mem_of_mem_take hy)
            · rw [List.mem_singleton] at hy; rw [hy]; exact hrowk
            · exact hrk y (List.mem_of_mem_drop hy)
            · exact hF2k y (List.mem_of_mem_drop hy)
          · exact List.take_left' rfl
          · simp
end Go.Q

set_option linter.unusedVariables false
set_option linter.unusedSimpArgs false
namespace Go.Q
open Go
structure IE where
  a : List UInt8
  b : List UInt8
  ks : List Int
  v : Value
  S : List Nat
def IE.me (e : IE) : ME := ⟨e.a, e.b, e.v⟩
def blksI (R : List IE) : List Nat := (R.map (·.S)).flatten
structure IMap (wb w : World) (n : Nat) (R : List IE) : Prop where
  map : MapIs w n (R.map IE.me)
  rows : ∀ e ∈ R, RowsAt w e.v 1 (e.ks.map intV) e.S
  nd : (blksI R).Nodup
  new : ∀ x ∈ blksI R, wb.heap.size ≤ x
  old : n < wb.heap.size
  kp : Kp [n] wb w
section
variable {P : Program} {T kt et : TypeId} {z : Value} {wb w : World} {n : Nat} {R : List IE}
theorem IMap.keep {w' : World} (h : IMap wb w n R) (hk : Kp [] w w') : IMap wb w' n R :=
  ⟨h.map.keep hk (by simp), fun e he => (h.rows e he).keep hk (by simp), h.nd, h.new, h.old, h.kp.trans hk (by simp)⟩
theorem blks_mem {j : Nat} (hj : j < R.length) {x : Nat} (hx : x ∈ R[j].S) : x ∈ blksI R := by
  unfold blksI
  exact List.mem_flatten.2 ⟨R[j].S, List.mem_map.2 ⟨R[j], List.getElem_mem hj, rfl⟩, hx⟩
theorem blks_apart : ∀ {R : List IE} {i j : Nat} (hi : i < R.length) (hj : j < R.length), (blksI R).Nodup → i ≠ j → ∀ x ∈ R[i].S, x ∉ R[j].S := by
  intro R
  induction R with
  | nil => intro i j hi; simp at hi
  | cons e r ih =>
    intro i j hi hj hnd hne x hx hx'
    simp only [blksI, List.map_cons, List.flatten_cons, List.nodup_append] at hnd
    cases i with
    | zero =>
      cases j with
      | zero => exact hne rfl
      | succ j => exact hnd.2.2 x hx x (blks_mem (R := r) (by simpa using hj) hx') rfl
    | succ i =>
      cases j with
      | zero => exact hnd.2.2 x hx' x (blks_mem (R := r) (by simpa using hi) hx) rfl
      | succ j => exact ih (by simpa using hi) (by simpa using hj) hnd.2.1 (by omega) x (by simpa using hx) (by simpa using hx')
theorem blks_set : ∀ {R : List IE} {j : Nat} (hj : j < R.length) (e : IE) {x : Nat}, x ∈ blksI (R.set j e) → x ∈ e.S ∨ ∃ i, ∃ h : i < R.length, i ≠ j ∧ x ∈ R[i].S := by
  intro R j hj e x hx
  obtain ⟨S, hS, hxS⟩ := List.mem_flatten.1 hx
  obtain ⟨e', he', rfl⟩ := List.mem_map.1 hS
  obtain ⟨i, hi, rfl⟩ := List.getElem_of_mem he'
  simp only [List.length_set] at hi
  by_cases h : j = i
  · subst h; simp at hxS; exact .inl hxS
  · rw [List.getElem_set_ne h] at hxS
    exact .inr ⟨i, hi, Ne.symm h, hxS⟩
theorem blks_set_nd : ∀ {R : List IE} {j : Nat} (hj : j < R.length) (e : IE), (blksI R).Nodup → e.S.Nodup → (∀ i (hi : i < R.length), i ≠ j → ∀ x ∈ R[i].S, x ∉ e.S) → (blksI (R.set j e)).Nodup := by
  intro R
  induction R with
  | nil => intro j hj; simp at hj
  | cons y r ih =>
    intro j hj e hnd he hap
    simp only [blksI, List.map_cons, List.flatten_cons, List.nodup_append] at hnd
    cases j with
    | zero =>
      simp only [List.set_cons_zero, blksI, List.map_cons, List.flatten_cons, List.nodup_append]
      refine ⟨he, hnd.2.1, fun a ha b hb hab => ?_⟩
      subst hab
      obtain ⟨S, hS, hxS⟩ := List.mem_flatten.1 hb
      obtain ⟨e', he', rfl⟩ := List.mem_map.1 hS
      obtain ⟨i, hi, rfl⟩ := List.getElem_of_mem he'
      exact hap (i + 1) (by simpa using hi) (by omega) a (by simpa using hxS) ha
    | succ j =>
      simp only [List.set_cons_succ, blksI, List.map_cons, List.flatten_cons, List.nodup_append]
      refine ⟨hnd.1, ih (by simpa using hj) e hnd.2.1 he (fun i hi hne x hx => hap (i + 1) (by simpa using hi) (by omega) x (by simpa using hx)), fun a ha b hb hab => ?_⟩
      subst hab
      rcases blks_set (R := r) (by simpa using hj) e hb with h | ⟨i, hi, hne, h⟩
      · exact hap 0 (by simp) (by omega) a (by simpa using ha) h
      · exact hnd.2.2 a ha a (blks_mem (R := r) hi h) rfl
theorem rows_S_nd {v : Value} {rows : List (List Value)} {S : List Nat} (h : RowsAt w v 1 rows S) : S.Nodup := by
  rcases h with ⟨_, _, h⟩ | ⟨bl, F, T, _, h, _⟩ <;> rw [h] <;> simp
theorem im_add (ht : MapT P T kt et z) (h : IMap wb w n R) {j : Nat} (hj : j < R.length) (hu : ∀ i (hi : i < R.length), i ≠ j → ¬(R[i].a = R[j].a ∧ R[i].b = R[j].b)) (hl : R[j].ks.length < 2 ^ 30) (q : Int) {K : World → Prop}
    (hK : ∀ w' v' S', IMap wb w' n (R.set j { R[j] with ks := R[j].ks ++ [q], v := v', S := S' }) → K w') {e : TypeId} {zz : Array Value} (hzz : zz = #[.int .i64 0]) :
    bsl e 1 1 zz #[(0, .int .i64 q)] w fun t137 w => eG P (Instr.mapEntry T (.map (some n)) (keyV R[j].a R[j].b)) w fun t138 w => qG P (Instr.extract t138 0) w fun t134 => app e 1 8 zz t134 t137 w fun t139 w => qG P (Instr.extract t138 1) w fun t140 => uG P (Instr.entryStore T (.map (some n)) t140 t139) w K := by
  subst hzz
  refine bsl_rows (n := 1) (len := 1) (xs := [.int .i64 q]) (rows := [q].map intV) (by omega) rfl rfl (by simp [intV]) (by omega) fun v1 w1 f1 => ?_
  have h1 := h.keep f1.kp
  have hjm : j < (R.map IE.me).length := by simpa using hj
  have hme : (R.map IE.me)[j] = R[j].me := by simp
  have hf := findE_at (m := R.map IE.me) (k := 0) hjm (fun i hi hne => by
    have hi' : i < R.length := by simpa using hi
    have := hu i hi' hne
    simpa [IE.me] using this)
  have hent := map_entry_old (P := P) ht h1.map hjm (by simpa using hf) (K := fun t138 w => qG P (Instr.extract t138 0) w fun t134 => app e 1 8 #[.int .i64 0] t134 v1 w fun t139 w => qG P (Instr.extract t138 1) w fun t140 => uG P (Instr.entryStore T (.map (some n)) t140 t139) w K) ?_
  · simpa [IE.me] using hent
  intro w2 hm2 hk2
  have hRn : ∀ x ∈ blksI R, x ≠ n := fun x hx hn => by have := h.new x hx; have := h.old; omega
  have r2 : ∀ e' ∈ R, RowsAt w2 e'.v 1 (e'.ks.map intV) e'.S := fun e' he' => (h1.rows e' he').keep hk2 (fun x hx => by
    obtain ⟨i, hi, rfl⟩ := List.getElem_of_mem he'
    simpa using hRn x (blks_mem hi hx))
  have kb2 : Kp [n] wb w2 := h1.kp.trans' hk2
  have hf1 : Rd w1 v1 1 ([q].map intV) := f1.rd
  obtain ⟨S1, hS1⟩ := f1.ex
  have hS1n : ∀ x ∈ S1, x ∉ [n] := fun x hx => by have := hS1.2 x hx; have := h.old; have := h.kp.size; simp; omega
  have hg2 := hS1.1.keep hk2 hS1n
  have hv0 : (R.map IE.me)[j].v = R[j].v := by rw [hme]; rfl
  rw [ex0, hv0]
  refine rows_app (k := 1) (z := [.int .i64 0]) (G := [q].map intV) (r2 R[j] (List.getElem_mem hj)) (by omega) rfl (by simp [intV]) (by simp [intV]) (fun K' hK' => hg2.rd.src K' hK') (by simp; omega) (by simp; omega) fun v3 w3 S3 h3 hk3 hS3 => ?_
  rw [ex1]
  have hsz2 := kb2.size
  have hRnS : n ∉ R[j].S := fun hm => hRn n (blks_mem hj hm) rfl
  have hm3 := hm2.keep hk3 hRnS
  refine map_store (P := P) hm3 hjm fun w4 hm4 hk4 => ?_
  have hlt2 : ∀ x ∈ blksI R, x < w2.heap.size := fun x hx => by
    obtain ⟨S, hS, hxS⟩ := List.mem_flatten.1 hx
    obtain ⟨e', he', rfl⟩ := List.mem_map.1 hS
    exact (r2 e' he').lt x hxS
  have hS3n : ∀ x ∈ S3, wb.heap.size ≤ x := fun x hx => by
    rcases hS3 x hx with hh | hh
    · exact h.new x (blks_mem hj hh)
    · omega
  have hapS : ∀ i (hi : i < R.length), i ≠ j → ∀ x ∈ R[i].S, x ∉ S3 := fun i hi hne x hx hx3 => by
    rcases hS3 x hx3 with hh | hh
    · exact blks_apart hi hj h.nd hne x hx hh
    · have := hlt2 x (blks_mem hi hx); omega
  refine hK w4 v3 S3 ⟨?_, fun e' he' => ?_, ?_, fun x hx => ?_, h.old, ?_⟩
  · have e1 : (R.set j { R[j] with ks := R[j].ks ++ [q], v := v3, S := S3 }).map IE.me = (R.map IE.me).set j { (R.map IE.me)[j] with v := v3 } := by
      rw [List.map_set]
      congr 1
      simp [IE.me]
    rw [e1]
    exact hm4
  · have hk4n : ∀ x, wb.heap.size ≤ x → x ∉ [n] := fun x hx => by have := h.old; simp; omega
    obtain ⟨i, hi, rfl⟩ := List.getElem_of_mem he'
    simp only [List.length_set] at hi
    by_cases hij : j = i
    · subst hij
      simp only [List.getElem_set_self]
      have h3' : RowsAt w3 v3 1 ((R[j].ks ++ [q]).map intV) S3 := by rw [List.map_append]; exact h3
      exact h3'.keep hk4 fun x hx => hk4n x (hS3n x hx)
    · rw [List.getElem_set_ne hij]
      exact ((r2 R[i] (List.getElem_mem hi)).keep hk3 (blks_apart hi hj h.nd (Ne.symm hij))).keep hk4 fun x hx => hk4n x (h.new x (blks_mem hi hx))
  · exact blks_set_nd hj _ h.nd (rows_S_nd h3) hapS
  · rcases blks_set hj _ hx with hh | ⟨i, hi, _, hh⟩
    · exact hS3n x hh
    · exact h.new x (blks_mem hi hh)
  · exact (kb2.trans hk3 fun x hx hlt => by have := h.new x (blks_mem hj hx); omega).trans' hk4
end
theorem equal_run {P : Program} {T : TypeId} {xs ys : List Value} {w : World} (h : aggEq P T xs ys = true) : (Op.equal T (.agg xs.toArray) (.agg ys.toArray)).run P w = .ok (eqC xs ys) w := by
  unfold aggEq at h
  split at h
  · rename_i fs hu
    simp only [Bool.and_eq_true, Bool.not_eq_true'] at h
    obtain ⟨⟨⟨⟨h1, h2⟩, h3⟩, h4⟩, h5⟩ := h
    have h4 := Nat.eq_of_beq_eq_true h4
    have h5 := Nat.eq_of_beq_eq_true h5
    have hf : P.fieldsOf T = fs := by simp [Program.fieldsOf, hu]
    have hr := flat_run (d := 9998) (xs := xs.toArray) (ys := ys.toArray) (w := w) fs.toList xs ys 0 h3 rfl rfl (by simpa using h4.symm) (by simpa using h5.symm)
    show (Op.equalIn 10000 T (.agg xs.toArray) (.agg ys.toArray)).run P w = _
    rw [run_equalIn_agg w 9999 T xs.toArray ys.toArray (by rw [hf]; exact hu) h1, hf]
    exact hr
  · cases h
def Shape (R : List IE) (st : List SV) (f : List UInt8 → List UInt8 → List Int) : Prop := R.map (fun e => (e.a, e.b, e.ks)) = st.map fun s => (s.sku, s.loc, f s.sku s.loc)
theorem Shape.len {R : List IE} {st : List SV} {f : List UInt8 → List UInt8 → List Int} (h : Shape R st f) : R.length = st.length := by
  have := congrArg List.length h
  simpa using this
theorem Shape.at {R : List IE} {st : List SV} {f : List UInt8 → List UInt8 → List Int} (h : Shape R st f) {i : Nat} (hi : i < R.length) (hs : i < st.length) : R[i].a = st[i].sku ∧ R[i].b = st[i].loc ∧ R[i].ks = f st[i].sku st[i].loc := by
  have := congrArg (fun l => l[i]?) h
  simp only [List.getElem?_map, List.getElem?_eq_getElem hi, List.getElem?_eq_getElem hs, Option.map_some, Option.some.injEq, Prod.mk.injEq] at this
  exact this
theorem sorted_get {st : List SV} (h : Sorted st) {i j : Nat} (hi : i < st.length) (hj : j < st.length) (hne : i ≠ j) : ¬(st[i].sku = st[j].sku ∧ st[i].loc = st[j].loc) := by
  intro hk
  rcases Nat.lt_or_gt_of_ne hne with hlt | hlt
  · have := List.pairwise_iff_getElem.1 h i j hi hj hlt
    rw [ahead_key (a' := st[j]) (b' := st[j]) hk.1 hk.2 rfl rfl, ahead_irrefl] at this
    cases this
  · have := List.pairwise_iff_getElem.1 h j i hj hi hlt
    rw [ahead_key (a' := st[i]) (b' := st[i]) hk.1.symm hk.2.symm rfl rfl, ahead_irrefl] at this
    cases this
theorem Shape.uniq {R : List IE} {st : List SV} {f : List UInt8 → List UInt8 → List Int} (h : Shape R st f) (hs : Sorted st) {i j : Nat} (hi : i < R.length) (hj : j < R.length) (hne : i ≠ j) : ¬(R[i].a = R[j].a ∧ R[i].b = R[j].b) := by
  have hl := h.len
  obtain ⟨a1, b1, _⟩ := h.at hi (by omega)
  obtain ⟨a2, b2, _⟩ := h.at hj (by omega)
  rw [a1, b1, a2, b2]
  exact sorted_get hs _ _ hne
theorem Shape.add {R : List IE} {st : List SV} {f : List UInt8 → List UInt8 → List Int} (h : Shape R st f) (hs : Sorted st) {j : Nat} (hj : j < R.length) (q : Int) (v : Value) (S : List Nat) :
    Shape (R.set j { R[j] with ks := R[j].ks ++ [q], v := v, S := S }) st (fun x y => f x y ++ if R[j].a = x ∧ R[j].b = y then [q] else []) := by
  have hl := h.len
  unfold Shape
  apply List.ext_getElem?
  intro i
  simp only [List.getElem?_map]
  by_cases hi : i < st.length
  · have hiR : i < R.length := by omega
    obtain ⟨a1, b1, k1⟩ := h.at hiR hi
    rw [List.getElem?_eq_getElem hi, List.getElem?_eq_getElem (by simpa using hiR)]
    simp only [Option.map_some, Option.some.injEq, Prod.mk.injEq]
    by_cases hij : j = i
    · subst hij
      simp only [List.getElem_set_self]
      exact ⟨a1, b1, by rw [k1, if_pos ⟨a1, b1⟩]⟩
    · simp only [List.getElem_set_ne hij]
      refine ⟨a1, b1, ?_⟩
      rw [k1, if_neg]
      · simp
      · rintro ⟨e1, e2⟩
        exact h.uniq hs hj hiR hij ⟨e1.trans a1.symm, e2.trans b1.symm⟩
  · rw [List.getElem?_eq_none (by rw [List.length_set]; omega), List.getElem?_eq_none (by omega)]
    rfl
theorem known_at {st : List SV} {a b : List UInt8} (h : ∃ s ∈ st, s.sku = a ∧ s.loc = b) : ∃ i, ∃ hi : i < st.length, st[i].sku = a ∧ st[i].loc = b := by
  obtain ⟨s, hs, h1, h2⟩ := h
  obtain ⟨i, hi, rfl⟩ := List.getElem_of_mem hs
  exact ⟨i, hi, h1, h2⟩
def actL (ho : List HV) (a b : List UInt8) : List Int := (ho.filter fun h => decide (h.sku = a ∧ h.loc = b ∧ h.st = 0)).map (·.q)
def movL (mo : List HV) (a b : List UInt8) : List Int := (mo.filter fun h => decide (h.sku = a ∧ h.loc = b)).map (·.q)
theorem actL_sum (ho : List HV) (a b : List UInt8) : (actL ho a b).sum = activeQ ho a b := by
  induction ho with
  | nil => rfl
  | cons h r ih =>
    simp only [actL, activeQ, List.filter_cons, List.map_cons, List.sum_cons] at ih ⊢
    by_cases hc : h.sku = a ∧ h.loc = b ∧ h.st = 0
    · rw [if_pos (by simpa using hc), if_pos hc]; simp only [List.map_cons, List.sum_cons, ih]
    · rw [if_neg (by simpa using hc), if_neg hc, ih]; omega
theorem movL_sum (mo : List HV) (a b : List UInt8) : (movL mo a b).sum = movedQ mo a b := by
  induction mo with
  | nil => rfl
  | cons h r ih =>
    simp only [movL, movedQ, List.filter_cons, List.map_cons, List.sum_cons] at ih ⊢
    by_cases hc : h.sku = a ∧ h.loc = b
    · rw [if_pos (by simpa using hc), if_pos hc]; simp only [List.map_cons, List.sum_cons, ih]
    · rw [if_neg (by simpa using hc), if_neg hc, ih]; omega
theorem actL_snoc (ho : List HV) (h : HV) (a b : List UInt8) : actL (ho ++ [h]) a b = actL ho a b ++ if h.sku = a ∧ h.loc = b ∧ h.st = 0 then [h.q] else [] := by
  simp only [actL, List.filter_append, List.map_append, List.filter_cons, List.filter_nil]
  by_cases hc : h.sku = a ∧ h.loc = b ∧ h.st = 0
  · rw [if_pos (by simpa using hc), if_pos hc]; rfl
  · rw [if_neg (by simpa using hc), if_neg hc]; rfl
theorem movL_snoc (mo : List HV) (h : HV) (a b : List UInt8) : movL (mo ++ [h]) a b = movL mo a b ++ if h.sku = a ∧ h.loc = b then [h.q] else [] := by
  simp only [movL, List.filter_append, List.map_append, List.filter_cons, List.filter_nil]
  by_cases hc : h.sku = a ∧ h.loc = b
  · rw [if_pos (by simpa using hc), if_pos hc]; rfl
  · rw [if_neg (by simpa using hc), if_neg hc]; rfl
theorem actL_len (ho : List HV) (a b : List UInt8) : (actL ho a b).length ≤ ho.length := by
  unfold actL; rw [List.length_map]; exact List.length_filter_le _ _
theorem movL_len (mo : List HV) (a b : List UInt8) : (movL mo a b).length ≤ mo.length := by
  unfold movL; rw [List.length_map]; exact List.length_filter_le _ _
end Go.Q

set_option linter.unusedVariables false
set_option linter.unusedSimpArgs false
namespace Go.Q
theorem ldF {w : World} {b j : Nat} {c : Array Value} {T : TypeId} {fr : Nat × Nat} {x : Value} (h : w.heap[b]? = some (.cells c T fr)) (hx : c[j]? = some x) {K : Value → Prop} : ld1 (.pointer (some ⟨b, j, none⟩)) w K = K x := by
  rw [ld1_p, rd1_mk, h]
  simp only [hx]
theorem stF {w : World} {b j : Nat} {c : Array Value} {T : TypeId} {x : Value} (h : w.heap[b]? = some (.cells c T (0, 0))) (hj : j < c.size) (hx : one x = true) {K : World → Prop} : st1 (.pointer (some ⟨b, j, none⟩)) x w K = K (setBlk w b (.cells (c.setIfInBounds j x) T)) := by
  rw [st1_p, wr1_mk, h]
  apply propext
  constructor
  · rintro ⟨_, _, hk⟩; exact hk
  · intro hk
    exact ⟨hx, ⟨hj, by rw [okFr0]; trivial⟩, hk⟩
structure Cmp where
  v : Value
  k : Nat
  rows : List (List Value)
  S : List Nat
def blksC (cs : List Cmp) : List Nat := (cs.map (·.S)).flatten
structure BoxAt (w : World) (x : Nat) (T : Nat) (cs : List Cmp) (tl : List Value) : Prop where
  cell : w.heap[x]? = some (.cells (cs.map (·.v) ++ tl).toArray T)
  rows : ∀ i (h : i < cs.length), RowsAt w cs[i].v cs[i].k cs[i].rows cs[i].S
  nd : (x :: blksC cs).Nodup
section
variable {w w' : World} {x T : Nat} {cs : List Cmp} {tl : List Value}
theorem blksC_mem {i : Nat} (hi : i < cs.length) {q : Nat} (hq : q ∈ cs[i].S) : q ∈ blksC cs := List.mem_flatten.2 ⟨_, List.mem_map.2 ⟨_, List.getElem_mem hi, rfl⟩, hq⟩
theorem blksC_set {i : Nat} {c : Cmp} {q : Nat} (h : q ∈ blksC (cs.set i c)) : q ∈ c.S ∨ ∃ j, ∃ hj : j < cs.length, j ≠ i ∧ q ∈ cs[j].S := by
  obtain ⟨r, hr, hq⟩ := List.mem_flatten.1 h
  obtain ⟨d, hd, rfl⟩ := List.mem_map.1 hr
  obtain ⟨j, hj, rfl⟩ := List.getElem_of_mem hd
  simp only [List.length_set] at hj
  by_cases he : i = j
  · subst he
    rw [List.getElem_set_self] at hq
    exact .inl hq
  · rw [List.getElem_set_ne he] at hq
    exact .inr ⟨j, hj, fun h => he h.symm, hq⟩
theorem nodup_flat {L : List (List Nat)} : L.flatten.Nodup ↔ (∀ l ∈ L, l.Nodup) ∧ L.Pairwise fun a b => ∀ x ∈ a, ∀ y ∈ b, x ≠ y := List.pairwise_flatten
theorem BoxAt.apart (h : BoxAt w x T cs tl) {i j : Nat} (hi : i < cs.length) (hj : j < cs.length) (hne : i ≠ j) {q : Nat} (hq : q ∈ cs[i].S) : q ∉ cs[j].S := by
  have h1 := (List.nodup_cons.1 h.nd).2
  have h2 := (nodup_flat.1 h1).2
  rw [List.pairwise_map] at h2
  intro hq'
  rcases Nat.lt_or_gt_of_ne hne with hlt | hlt
  · exact (List.pairwise_iff_getElem.1 h2 i j hi hj hlt) q hq q hq' rfl
  · exact (List.pairwise_iff_getElem.1 h2 j i hj hi hlt) q hq' q hq rfl
theorem BoxAt.x_not (h : BoxAt w x T cs tl) {i : Nat} (hi : i < cs.length) : x ∉ cs[i].S := fun hq => (List.nodup_cons.1 h.nd).1 (blksC_mem hi hq)
theorem BoxAt.lt (h : BoxAt w x T cs tl) : ∀ q ∈ x :: blksC cs, q < w.heap.size := by
  intro q hq
  rcases List.mem_cons.1 hq with rfl | hq
  · exact lt_of_blk h.cell
  · obtain ⟨r, hr, hq⟩ := List.mem_flatten.1 hq
    obtain ⟨d, hd, rfl⟩ := List.mem_map.1 hr
    obtain ⟨j, hj, rfl⟩ := List.getElem_of_mem hd
    exact (h.rows j hj).lt q hq
theorem BoxAt.keepS {S : List Nat} (h : BoxAt w x T cs tl) (hk : Kp S w w') (hS : ∀ q ∈ x :: blksC cs, q ∉ S) : BoxAt w' x T cs tl :=
  ⟨hk.get h.cell (hS x (by simp)), fun i hi => (h.rows i hi).keep hk fun q hq => hS q (by simp [blksC_mem hi hq]), h.nd⟩
theorem BoxAt.keep (h : BoxAt w x T cs tl) (hk : Kp [] w w') : BoxAt w' x T cs tl := h.keepS hk (by simp)
theorem BoxAt.ld (h : BoxAt w x T cs tl) {n : Nat} (hn : n = cs.length + tl.length) {K : Value → Prop} : ldn n (.pointer (some ⟨x, 0, none⟩)) w K = K (.agg (cs.map (·.v) ++ tl).toArray) := by
  have hs : ((cs.map (·.v) ++ tl).toArray).size = n := by simp [hn]
  rw [ldn_p, rdN_mk, h.cell]
  subst hs
  simp only [Nat.zero_add, Nat.le_refl, true_and, Array.extract_size]
theorem BoxAt.rd (h : BoxAt w x T cs tl) {i : Nat} (hi : i < cs.length) {w1 : World} (hk : Kp cs[i].S w w1) {K : Value → Prop} : ld1 (.pointer (some ⟨x, i, none⟩)) w1 K = K cs[i].v := by
  have hc : ((cs.map (·.v) ++ tl).toArray)[i]? = some cs[i].v := by
    rw [List.getElem?_toArray, List.getElem?_append_left (by simpa using hi)]; simp [hi]
  rw [ld1_p, rd1_mk, hk.get h.cell (h.x_not hi)]
  simp only [hc]
theorem blksC_same {i : Nat} (hi : i < cs.length) {c : Cmp} (hS : c.S = cs[i].S) : blksC (cs.set i c) = blksC cs := by
  unfold blksC
  congr 1
  rw [List.map_set, hS]
  apply List.ext_getElem
  · simp
  · intro j h1 h2
    by_cases he : i = j
    · subst he; simp
    · simp [List.getElem_set_ne he]
theorem map_v_same {i : Nat} (hi : i < cs.length) {c : Cmp} (hv : c.v = cs[i].v) : (cs.set i c).map (·.v) = cs.map (·.v) := by
  rw [List.map_set, hv]
  apply List.ext_getElem
  · simp
  · intro j h1 h2
    by_cases he : i = j
    · subst he; simp
    · simp [List.getElem_set_ne he]
theorem BoxAt.inplace (h : BoxAt w x T cs tl) {i : Nat} (hi : i < cs.length) {w1 : World} (hk : Kp cs[i].S w w1) {rows' : List (List Value)} (hr : RowsAt w1 cs[i].v cs[i].k rows' cs[i].S) :
    BoxAt w1 x T (cs.set i ⟨cs[i].v, cs[i].k, rows', cs[i].S⟩) tl ∧ blksC (cs.set i ⟨cs[i].v, cs[i].k, rows', cs[i].S⟩) = blksC cs := by
  have e1 := blksC_same hi (c := ⟨cs[i].v, cs[i].k, rows', cs[i].S⟩) rfl
  refine ⟨⟨?_, fun j hj => ?_, by rw [e1]; exact h.nd⟩, e1⟩
  · rw [map_v_same hi (c := ⟨cs[i].v, cs[i].k, rows', cs[i].S⟩) rfl]
    exact hk.get h.cell (h.x_not hi)
  · simp only [List.length_set] at hj
    by_cases he : i = j
    · subst he; rw [List.getElem_set_self]; exact hr
    · rw [List.getElem_set_ne he]
      exact (h.rows j hj).keep hk fun q hq => h.apart hj hi (fun e => he e.symm) hq
theorem BoxAt.store (h : BoxAt w x T cs tl) {i : Nat} (hi : i < cs.length) {w1 : World} (hk : Kp cs[i].S w w1) {v' : Value} {rows' : List (List Value)} {S' : List Nat} (hr : RowsAt w1 v' cs[i].k rows' S') (hS : ∀ q ∈ S', q ∈ cs[i].S ∨ w.heap.size ≤ q) {K : World → Prop}
    (hK : ∀ w2, BoxAt w2 x T (cs.set i ⟨v', cs[i].k, rows', S'⟩) tl → Kp (x :: cs[i].S) w w2 → Kp [x] w1 w2 → (∀ q ∈ blksC (cs.set i ⟨v', cs[i].k, rows', S'⟩), q ∈ blksC cs ∨ w.heap.size ≤ q) → K w2) : st1 (.pointer (some ⟨x, i, none⟩)) v' w1 K := by
  have hlt := h.lt
  have g1 := hk.get h.cell (h.x_not hi)
  have l1 := live_of g1
  have hone : one v' = true := by obtain ⟨a, c, hv, _⟩ := hr.len; rw [hv]; rfl
  have k1 : ∀ o, Kp [x] w1 (setBlk w1 x o) := fun o => (Kp.refl _ _).setBlk (.inl (by simp)) o
  have k2 : ∀ o, Kp (x :: cs[i].S) w (setBlk w1 x o) := fun o => (hk.mono (fun q hq _ => by simp [hq])).setBlk (.inl (by simp)) o
  have hx' : x ∉ S' := fun hh => by
    rcases hS x hh with hh | hh
    · exact h.x_not hi hh
    · have := hlt x (by simp); omega
  have hnot : ∀ j (hj : j < cs.length), j ≠ i → ∀ q ∈ cs[j].S, q ∉ x :: cs[i].S := fun j hj hne q hq hh => by
    rcases List.mem_cons.1 hh with rfl | hh
    · exact h.x_not hj hq
    · exact h.apart hj hi hne hq hh
  have hdis : ∀ j (hj : j < cs.length), j ≠ i → ∀ q ∈ cs[j].S, q ∉ S' := fun j hj hne q hq hh => by
    rcases hS q hh with hh | hh
    · exact h.apart hj hi hne hq hh
    · have := hlt q (by simp [blksC_mem hj hq]); omega
  have hin : ∀ q ∈ blksC (cs.set i ⟨v', cs[i].k, rows', S'⟩), q ∈ S' ∨ q ∈ blksC cs := fun q hq => by
    rcases blksC_set hq with hq | ⟨j, hj, _, hq⟩
    · exact .inl hq
    · exact .inr (blksC_mem hj hq)
  rw [st1_p, wr1_mk, g1]
  refine ⟨hone, ⟨by simp; omega, by rw [okFr0]; trivial⟩, ?_⟩
  have hc : (cs.map (·.v) ++ tl).toArray.setIfInBounds i v' = ((cs.set i ⟨v', cs[i].k, rows', S'⟩).map (·.v) ++ tl).toArray := by
    rw [List.map_set]
    simp [List.set_append_left, hi]
  rw [hc]
  refine hK _ ⟨heap_self l1, fun j hj => ?_, ?_⟩ (k2 _) (k1 _) fun q hq => ?_
  · simp only [List.length_set] at hj
    by_cases he : i = j
    · subst he; rw [List.getElem_set_self]; exact hr.keep (k1 _) fun q hq => by simp; intro e; exact hx' (e ▸ hq)
    · rw [List.getElem_set_ne he]
      exact (h.rows j hj).keep (k2 _) fun q hq => hnot j hj (fun e => he e.symm) q hq
  · refine List.nodup_cons.2 ⟨fun hq => ?_, ?_⟩
    · rcases hin x hq with hq | hq
      · exact hx' hq
      · exact (List.nodup_cons.1 h.nd).1 hq
    · have h1 := (List.nodup_cons.1 h.nd).2
      obtain ⟨h2, h3⟩ := nodup_flat.1 h1
      refine nodup_flat.2 ⟨fun r hr' => ?_, ?_⟩
      · obtain ⟨d, hd, rfl⟩ := List.mem_map.1 hr'
        rcases List.mem_or_eq_of_mem_set hd with hd | rfl
        · exact h2 _ (List.mem_map.2 ⟨d, hd, rfl⟩)
        · exact hr.nodup
      · rw [List.pairwise_map] at h3 ⊢
        rw [List.pairwise_iff_getElem] at h3 ⊢
        intro a b ha hb hab
        simp only [List.length_set] at ha hb
        by_cases ea : i = a
        · subst ea
          rw [List.getElem_set_self, List.getElem_set_ne (by omega)]
          exact fun q hq q' hq' he => hdis b hb (by omega) q (he ▸ hq') hq
        · by_cases eb : i = b
          · subst eb
            rw [List.getElem_set_self, List.getElem_set_ne ea]
            exact fun q hq q' hq' he => hdis a ha (by omega) q hq (he ▸ hq')
          · rw [List.getElem_set_ne ea, List.getElem_set_ne eb]
            exact h3 a b ha hb hab
  · rcases hin q hq with hq | hq
    · rcases hS q hq with hq | hq
      · exact .inl (blksC_mem hi hq)
      · exact .inr hq
    · exact .inl hq
end
end Go.Q

set_option maxRecDepth 100000
set_option linter.unusedVariables false
set_option linter.unusedSimpArgs false
namespace Go.Proofs
open Go Go.Q
open Tryz (prog)
theorem mapT : MapT prog 97 101 33 (.slice none 0 0) where
  hm := Tryz.underlying97
  wide := by rw [Tryz.underlying101]
  ck := fun e a b w => by kernel_rfl
  eq := fun a b c d w => by
    have h : aggEq prog 101 [.string (str a), .string (str b)] [.string (str c), .string (str d)] = true := by kernel_rfl
    have := equal_run (w := w) h
    simp only [eqC_cons, eqC_nil, eqV_str, str_eq, Bool.and_true] at this
    rw [Bool.decide_and]
    exact this
  zv := fun w => by kernel_rfl
def LedAt (w : World) (v : Value) (l : LV) : Prop := ∃ a b c, v = .agg #[a, b, c, .int .i64 l.ops] ∧ Rd w a 4 (l.st.map sC) ∧ Rd w b 6 (l.ho.map hC) ∧ Rd w c 6 (l.mo.map hC)
section
variable {w0 : World} {l : LV} {R : KW} {x n3 n4 : Nat} {sv hv mv : Value}
structure CkAt (w0 w : World) (l : LV) (x : Nat) (sv hv mv : Value) : Prop where
  hx : w.heap[x]? = some (.cells #[sv, hv, mv, .int .i64 l.ops] 26)
  s0 : Rd w0 sv 4 (l.st.map sC)
  h0 : Rd w0 hv 6 (l.ho.map hC)
  m0 : Rd w0 mv 6 (l.mo.map hC)
  kp : Kp [] w0 w
  x0 : w0.heap.size ≤ x
theorem CkAt.s {w : World} (c : CkAt w0 w l x sv hv mv) : Rd w sv 4 (l.st.map sC) := c.s0.keep c.kp
theorem CkAt.h {w : World} (c : CkAt w0 w l x sv hv mv) : Rd w hv 6 (l.ho.map hC) := c.h0.keep c.kp
theorem CkAt.m {w : World} (c : CkAt w0 w l x sv hv mv) : Rd w mv 6 (l.mo.map hC) := c.m0.keep c.kp
theorem CkAt.keep {w w' : World} (c : CkAt w0 w l x sv hv mv) (hk : Kp [] w w') : CkAt w0 w' l x sv hv mv :=
  ⟨hk.get c.hx (by simp), c.s0, c.h0, c.m0, c.kp.trans' hk, c.x0⟩
theorem CkAt.keepN {w w' : World} (c : CkAt w0 w l x sv hv mv) {n : Nat} (hk : Kp [n] w w') (hn : w0.heap.size ≤ n) (hx : x ≠ n) : CkAt w0 w' l x sv hv mv :=
  ⟨hk.get c.hx (by simpa using hx), c.s0, c.h0, c.m0, c.kp.trans hk (fun y hy hlt => by simp at hy; omega), c.x0⟩
structure IRead (w : World) (n : Nat) (R : List IE) : Prop where
  map : MapIs w n (R.map IE.me)
  rows : ∀ e ∈ R, RowsAt w e.v 1 (e.ks.map intV) e.S
theorem IRead.keepS {w w' : World} {n : Nat} {R : List IE} {S : List Nat} (h : IRead w n R) (hk : Kp S w w') (hn : n ∉ S) (hb : ∀ y ∈ blksI R, y ∉ S) : IRead w' n R :=
  ⟨h.map.keep hk hn, fun e he => (h.rows e he).keep hk (fun y hy => by
    obtain ⟨i, hi, rfl⟩ := List.getElem_of_mem he
    exact hb y (blks_mem hi hy))⟩
theorem IRead.keep {w w' : World} {n : Nat} {R : List IE} (h : IRead w n R) (hk : Kp [] w w') : IRead w' n R := h.keepS hk (by simp) (by simp)
theorem _root_.Go.Q.IMap.read {wb w : World} {n : Nat} {R : List IE} (h : IMap wb w n R) : IRead w n R := ⟨h.map, h.rows⟩
theorem boxPl {z : Array Value} {a b : List UInt8} {w : World} {K : KW} (hz : z.size = 2)
    (h : ∀ p w1, w.heap.size ≤ p → w1.heap[p]? = some (.cells #[.string (str a), .string (str b)] 101) → Kp [] w w1 → K (.pointer (some ⟨p, 0, none⟩)) w1) : newG z 101 w fun p w => stn 2 p (keyV a b) w fun w => K p w :=
  boxG hz rfl (by simp [one]) h
theorem ldPl {b : Nat} {x y : List UInt8} {w : World} {T : TypeId} (h : w.heap[b]? = some (.cells #[.string (str x), .string (str y)] T)) {K : Value → Prop} : ldn 2 (.pointer (some ⟨b, 0, none⟩)) w K = K (keyV x y) := ldAll h rfl
theorem rd_stock {w : World} {v : Value} {st : List SV} (h : Rd w v 4 (st.map sC)) {i : Nat} (hi : i < st.length) : ∃ p, (∀ K : Value → Prop, ia 4 v (.int .i64 i) K = K p) ∧ ∀ K : Value → Prop, ldn 4 p w K = K (sA st[i]) := by
  obtain ⟨p, h1, h2, _⟩ := h.get (i := i) (by simpa using hi)
  refine ⟨p, fun K => h1 .i64 K, fun K => ?_⟩
  rw [h2 K]
  simp [sC, sA]
theorem rd_hold {w : World} {v : Value} {ho : List HV} (h : Rd w v 6 (ho.map hC)) {i : Nat} (hi : i < ho.length) : ∃ p, (∀ K : Value → Prop, ia 6 v (.int .i64 i) K = K p) ∧ ∀ K : Value → Prop, ldn 6 p w K = K (hA ho[i]) := by
  obtain ⟨p, h1, h2, _⟩ := h.get (i := i) (by simpa using hi)
  refine ⟨p, fun K => h1 .i64 K, fun K => ?_⟩
  rw [h2 K]
  simp [hC, hA]
theorem rngI_fits {x : Int} (h : fits x = true) : rngI x := fits_rng.1 h
def nilI (s : SV) : IE := ⟨s.sku, s.loc, [], .slice none 0 0, []⟩
theorem nil_shape (st : List SV) : Shape (st.map nilI) st (fun _ _ => []) := by simp [Shape, nilI]
theorem nil_blks (st : List SV) : blksI (st.map nilI) = [] := by
  induction st with
  | nil => rfl
  | cons s r ih => simp only [blksI, List.map_cons, List.flatten_cons] at ih ⊢; rw [ih]; rfl
theorem nil_read {w : World} {n : Nat} {st : List SV} (h : MapIs w n ((st.map nilI).map IE.me)) : IRead w n (st.map nilI) :=
  ⟨h, fun e he => by
    obtain ⟨s, _, rfl⟩ := List.mem_map.1 he
    exact .inl ⟨rfl, rfl, rfl⟩⟩
theorem nil_snoc {st : List SV} {i : Nat} (h : i < st.length) : ((st.take i).map nilI).map IE.me ++ [⟨st[i].sku, st[i].loc, .slice none 0 0⟩] = ((st.take (i + 1)).map nilI).map IE.me := by
  rw [List.take_succ_eq_append_getElem h, List.map_append, List.map_append]
  rfl
theorem nil_none {st : List SV} (hs : Sorted st) {i : Nat} (h : i < st.length) : findE st[i].sku st[i].loc (((st.take i).map nilI).map IE.me) 0 = none := by
  rw [findE_none]
  intro e he hk
  simp only [List.map_map, List.mem_map, Function.comp] at he
  obtain ⟨s, hs', rfl⟩ := he
  obtain ⟨j, hj, rfl⟩ := List.getElem_of_mem hs'
  simp only [List.length_take] at hj
  simp only [List.getElem_take, nilI, IE.me] at hk
  exact sorted_get hs (by omega) h (by omega) ⟨hk.1.symm, hk.2.symm⟩
theorem max3 {ts : Array TypeId} {t : TypeId} {a b c : Int} {w : World} {K : Value → Prop} : qG prog (Builtin.max_ ts t #[.int .i64 a, .int .i64 b, .int .i64 c]) w K = K (.int .i64 (max (max a b) c)) := by
  refine qG_of ?_
  simp only [Builtin.max_, List.foldlM_cons, List.foldlM_nil, Builtin.max2, pure_bind]
  show Result.ok _ _ = _
  congr 2
  omega
end
theorem nbF {P : Prop} (e : ¬P) : false = true ↔ P := ⟨fun h => (by cases h), fun h => absurd h e⟩
def holdB (k : Nat) (h : HV) : Prop := h.id = (k + 1 : Nat) ∧ nameOk h.sku = true ∧ nameOk h.loc = true ∧ 1 ≤ h.q ∧ 0 ≤ h.st ∧ h.st ≤ 2 ∧ 0 ≤ h.due
def moveB (k : Nat) (h : HV) : Prop := h.id = (k + 1 : Nat) ∧ nameOk h.sku = true ∧ nameOk h.loc = true ∧ h.q ≠ 0 ∧ (h.st = 1 ∨ h.st = 3 ∨ h.st = 6 ∨ h.st = 7) ∧ 0 ≤ h.due ∧ (h.due ≠ 0 ↔ h.st = 3)
theorem hold_any {w : World} {h : HV} {k : Nat} (hk : k < 1000000) {K : KW} (hK : ∀ w' b, Kp [] w w' → (b = true ↔ holdB k h) → K (.bool b) w') :
    callG prog 54 #[.int .i64 k, hA h] w K := by
  refine Fn54_call ?_
  unfold Fn54 Fn54_s0
  refine argBox (cs := hC h) fun b w1 hb hh hk1 => ?_
  have hiw : IntKind.i64.wrap ((k : Int) + 1) = ((k + 1 : Nat) : Int) := by rw [w64 (by omega) (by omega)]; simp
  simp only [fa_p, Nat.add_zero, Nat.zero_add]
  rw [ldF hh (j := 0) (x := .int .i64 h.id) rfl]
  simp only [bq_add, bq_eql, hiw, bV_b, decide_eq_true_eq, decide_eq_false_iff_not]
  refine ⟨fun e1 => ?_, fun e1 => hK w1 false hk1 (nbF fun hh => e1 hh.1)⟩
  rw [ldF hh (j := 1) (x := .string (str h.sku)) rfl]
  refine lname_spec h.sku ?_
  simp only [bV_b]
  refine ⟨fun e2 => ?_, fun e2 => hK w1 false hk1 (nbF fun hh => by rw [hh.2.1] at e2; cases e2)⟩
  rw [ldF hh (j := 2) (x := .string (str h.loc)) rfl]
  refine lname_spec h.loc ?_
  simp only [bV_b]
  refine ⟨fun e3 => ?_, fun e3 => hK w1 false hk1 (nbF fun hh => by rw [hh.2.2.1] at e3; cases e3)⟩
  rw [ldF hh (j := 3) (x := .int .i64 h.q) rfl]
  simp only [bq_geq, bV_b, decide_eq_true_eq, decide_eq_false_iff_not]
  refine ⟨fun e4 => ?_, fun e4 => hK w1 false hk1 (nbF fun hh => e4 hh.2.2.2.1)⟩
  rw [ldF hh (j := 4) (x := .int .i64 h.st) rfl]
  simp only [bq_geq, bV_b, decide_eq_true_eq, decide_eq_false_iff_not]
  refine ⟨fun e5 => ?_, fun e5 => hK w1 false hk1 (nbF fun hh => e5 hh.2.2.2.2.1)⟩
  rw [ldF hh (j := 4) (x := .int .i64 h.st) rfl]
  simp only [bq_leq, bV_b, decide_eq_true_eq, decide_eq_false_iff_not]
  refine ⟨fun e6 => ?_, fun e6 => hK w1 false hk1 (nbF fun hh => e6 hh.2.2.2.2.2.1)⟩
  rw [ldF hh (j := 5) (x := .int .i64 h.due) rfl]
  simp only [bq_geq]
  refine hK w1 _ hk1 ?_
  simp only [decide_eq_true_eq]
  exact ⟨fun e7 => ⟨e1, e2, e3, e4, e5, e6, e7⟩, fun hh => hh.2.2.2.2.2.2⟩
theorem move_any {w : World} {h : HV} {k : Nat} (hk : k < 1000000) {K : KW} (hK : ∀ w' b, Kp [] w w' → (b = true ↔ moveB k h) → K (.bool b) w') :
    callG prog 55 #[.int .i64 k, hA h] w K := by
  refine Fn57_call ?_
  unfold Fn57 Fn57_s4 Fn57_s3 Fn57_s2
  refine argBox (cs := hC h) fun b w1 hb hh hk1 => ?_
  have hiw : IntKind.i64.wrap ((k : Int) + 1) = ((k + 1 : Nat) : Int) := by rw [w64 (by omega) (by omega)]; simp
  have hs0 : (h.st = 1 ∨ h.st = 3 ∨ h.st = 6 ∨ h.st = 7) → 0 ≤ h.due → (h.due ≠ 0 ↔ h.st = 3) → Fn57_s0 K (.int .i64 k) (.pointer (some ⟨b, 0, none⟩)) w1 := fun c1 c2 c3 => by
    unfold Fn57_s0
    simp only [fa_p, Nat.add_zero, Nat.zero_add]
    rw [ldF hh (j := 0) (x := .int .i64 h.id) rfl]
    simp only [bq_add, bq_eql, hiw, bV_b, decide_eq_true_eq, decide_eq_false_iff_not]
    refine ⟨fun e1 => ?_, fun e1 => hK w1 false hk1 (nbF fun hh => e1 hh.1)⟩
    rw [ldF hh (j := 1) (x := .string (str h.sku)) rfl]
    refine lname_spec h.sku ?_
    simp only [bV_b]
    refine ⟨fun e2 => ?_, fun e2 => hK w1 false hk1 (nbF fun hh => by rw [hh.2.1] at e2; cases e2)⟩
    rw [ldF hh (j := 2) (x := .string (str h.loc)) rfl]
    refine lname_spec h.loc ?_
    simp only [bV_b]
    refine ⟨fun e3 => ?_, fun e3 => hK w1 false hk1 (nbF fun hh => by rw [hh.2.2.1] at e3; cases e3)⟩
    rw [ldF hh (j := 3) (x := .int .i64 h.q) rfl]
    simp only [bq_neq]
    refine hK w1 _ hk1 ?_
    simp only [decide_eq_true_eq]
    exact ⟨fun e4 => ⟨e1, e2, e3, e4, c1, c2, c3⟩, fun hh => hh.2.2.2.1⟩
  have hs1 : h.st = 1 ∨ h.st = 6 ∨ h.st = 7 → Fn57_s1 K (.int .i64 k) (.pointer (some ⟨b, 0, none⟩)) (.int .i64 h.st) (.bool true) w1 := fun c1 => by
    unfold Fn57_s1
    simp only [bV_b, fa_p, Nat.add_zero, Nat.zero_add, true_implies, Bool.true_eq_false, false_implies, and_true]
    rw [ldF hh (j := 5) (x := .int .i64 h.due) rfl]
    simp only [bq_neq, bV_b, decide_eq_true_eq, decide_eq_false_iff_not]
    refine ⟨fun e => hK w1 false hk1 (nbF fun hh => ?_), fun e => hs0 (by omega) (by omega) (by omega)⟩
    have := hh.2.2.2.2.2.2.1 e
    omega
  simp only [fa_p, Nat.add_zero, Nat.zero_add]
  rw [ldF hh (j := 4) (x := .int .i64 h.st) rfl]
  simp only [bq_eql, bV_b, decide_eq_true_eq, decide_eq_false_iff_not]
  refine ⟨fun e => hs1 (by omega), fun e1 => ⟨fun e => hs1 (by omega), fun e2 => ?_⟩⟩
  by_cases e3 : h.st = 7
  · rw [decide_eq_true e3]
    exact hs1 (by omega)
  rw [decide_eq_false e3]
  unfold Fn57_s1
  simp only [bV_b, fa_p, Nat.add_zero, Nat.zero_add, true_implies, Bool.false_eq_true, false_implies, true_and, bq_eql, decide_eq_true_eq, decide_eq_false_iff_not]
  refine ⟨fun e4 => ?_, fun e4 => hK w1 false hk1 (nbF fun hh => by have := hh.2.2.2.2.1; omega)⟩
  rw [ldF hh (j := 5) (x := .int .i64 h.due) rfl]
  simp only [bq_lss, bV_b, decide_eq_true_eq, decide_eq_false_iff_not]
  refine ⟨fun e => hK w1 false hk1 (nbF fun hh => ?_), fun e => hs0 (by omega) (by omega) (by omega)⟩
  have h1 := hh.2.2.2.2.2.2.2 e4
  have h2 := hh.2.2.2.2.2.1
  omega
structure LRg (l : LV) : Prop where
  ho : ∀ h ∈ l.ho, (h.st = 0 → rngI h.q) ∧ rngI h.id
  mo : ∀ h ∈ l.mo, rngI h.q ∧ rngI h.id
def okS (l : LV) (s : SV) : Prop := (numO (activeQ l.ho s.sku s.loc)).2 = 0 ∧ (numO (movedQ l.mo s.sku s.loc)).2 = 0 ∧ (numO (activeQ l.ho s.sku s.loc)).1 = s.held ∧ (numO (movedQ l.mo s.sku s.loc)).1 = s.hand
theorem numO_ok {n : Int} (h : (numO n).2 = 0) : fits n = true ∧ (numO n).1 = n := by
  unfold numO at h ⊢
  split at h
  · rename_i hf
    rw [if_pos hf]
    exact ⟨hf, rfl⟩
  · simp at h
section
variable {w0 : World} {l : LV} {R : KW} {x n3 n4 : Nat} {sv hv mv : Value}
theorem okS_may (hm : May l) {s : SV} (hs : s ∈ l.st) : okS l s := by
  obtain ⟨_, _, g3, g4, g5, g6, g7⟩ := hm.f.ok s hs
  have gf := fits_iff.1 g3
  unfold okS
  rw [← g6, ← g7, numO_fit g3, numO_fit (fits_iff.2 (by omega))]
  exact ⟨rfl, rfl, rfl, rfl⟩
theorem okS_eq {s : SV} (h : okS l s) : fits s.hand = true ∧ s.held = activeQ l.ho s.sku s.loc ∧ s.hand = movedQ l.mo s.sku s.loc := by
  obtain ⟨h1, h2, h3, h4⟩ := h
  obtain ⟨a1, a2⟩ := numO_ok h1
  obtain ⟨b1, b2⟩ := numO_ok h2
  rw [a2] at h3
  rw [b2] at h4
  exact ⟨h4 ▸ b1, h3.symm, h4.symm⟩
theorem actR (hg : LRg l) (a b : List UInt8) : ∀ x ∈ actL l.ho a b, rngI x := by
  intro x hx
  unfold actL at hx
  simp only [List.mem_map, List.mem_filter, decide_eq_true_eq] at hx
  obtain ⟨h, ⟨hh, _, _, h0⟩, rfl⟩ := hx
  exact (hg.ho h hh).1 h0
theorem movR (hg : LRg l) (a b : List UInt8) : ∀ x ∈ movL l.mo a b, rngI x := by
  intro x hx
  unfold movL at hx
  simp only [List.mem_map, List.mem_filter] at hx
  obtain ⟨h, ⟨hh, _⟩, rfl⟩ := hx
  exact (hg.mo h hh).1
theorem fin_any {w : World} (hg : LRg l) (hfew : fullL l = false) (hso : Sorted l.st) (c : CkAt w0 w l x sv hv mv) {R3 R4 : List IE} (i3 : IRead w n3 R3) (i4 : IRead w n4 R4) (s3 : Shape R3 l.st (actL l.ho)) (s4 : Shape R4 l.st (movL l.mo))
    (h0 : (∀ s ∈ l.st, okS l s) → ∀ w', Kp [] w w' → R (.int .i64 0) w') (h1 : ¬ May l → ∀ w', Kp [] w w' → R (.int .i64 1) w') : Fn49_L2 R (.map (some n3)) (.map (some n4)) sv (.int .i64 l.st.length) (.int .i64 0) w := by
  simp only [fullL, decide_eq_false_iff_not, not_or] at hfew
  unfold Fn49_L2
  refine loop_inv (fun m xs wi => ∃ i, i ≤ l.st.length ∧ m = l.st.length - i ∧ xs = [.map (some n3), .map (some n4), sv, .int .i64 l.st.length, .int .i64 (i : Nat)] ∧ Kp [] w wi ∧ ∀ j (hj : j < l.st.length), j < i → okS l l.st[j]) ?_ (m := l.st.length) ⟨0, by omega, rfl, rfl, Kp.refl _ _, fun j hj h => by omega⟩
  rintro m N xs wi ⟨i, hi, rfl, rfl, hk, hok⟩ hN
  have hiw : IntKind.i64.wrap ((i : Int) + 1) = ((i + 1 : Nat) : Int) := by rw [w64 (by omega) (by omega)]; simp
  unfold Fn49_L2F Fn49_b1
  simp [-getElem?_pos, -Array.all_eq_true, -Array.getElem?_eq_getElem, -List.length_flatten, gz0, gz1, -ldn_p, -stn_p, -newG_k]
  refine ⟨fun hlt => ?_, fun hge => by
    unfold Fn49_s0
    exact h0 (fun s hs => by
      obtain ⟨j, hj, rfl⟩ := List.getElem_of_mem hs
      exact hok j hj (by omega)) wi hk⟩
  obtain ⟨p, hp1, hp2⟩ := rd_stock ((c.keep hk).s) hlt
  rw [hp1, hp2]
  refine boxStock (o := l.st[i]) (by kernel_rfl) fun b1 w1 hb1 hh1 hk1 => ?_
  rw [ldStock hh1]
  refine of_spec7 l.st[i] fun w2 hk2 => ?_
  have kk2 := (hk.trans' hk1).trans' hk2
  have j3 := i3.keep kk2
  have j4 := i4.keep kk2
  have hl3 := s3.len
  have hl4 := s4.len
  obtain ⟨a3, b3, c3⟩ := s3.at (i := i) (by omega) hlt
  obtain ⟨a4, b4, c4⟩ := s4.at (i := i) (by omega) hlt
  have f3 := findE_at (m := R3.map IE.me) (k := 0) (i := i) (by simpa using (by omega : i < R3.length)) (fun j hj hne => by
    have := s3.uniq hso (i := j) (j := i) (by simpa using hj) (by omega) hne
    simpa [IE.me] using this)
  have f4 := findE_at (m := R4.map IE.me) (k := 0) (i := i) (by simpa using (by omega : i < R4.length)) (fun j hj hne => by
    have := s4.uniq hso (i := j) (j := i) (by simpa using hj) (by omega) hne
    simpa [IE.me] using this)
  simp only [List.getElem_map, IE.me, a3, b3, Nat.zero_add] at f3
  simp only [List.getElem_map, IE.me, a4, b4, Nat.zero_add] at f4
  refine map_get mapT j3.map ?_
  rw [show findE l.st[i].sku l.st[i].loc (R3.map IE.me) 0 = _ from f3]
  simp only [Option.map_some, Option.getD_some]
  have r3 := j3.rows R3[i] (List.getElem_mem (by omega))
  refine numSum_spec (ks := R3[i].ks) ⟨_, .inr r3.rd⟩ (by rw [c3]; exact actR hg _ _) (by rw [c3]; have := actL_len l.ho l.st[i].sku l.st[i].loc; omega) ?_
  rw [c3, actL_sum]
  rw [ex0, ex1, ldStock (hk2.get hh1 (by simp))]
  refine of_spec7 l.st[i] fun w3 hk3 => ?_
  refine map_get mapT (j4.keep hk3).map ?_
  rw [show findE l.st[i].sku l.st[i].loc (R4.map IE.me) 0 = _ from f4]
  simp only [Option.map_some, Option.getD_some]
  have r4 := (j4.keep hk3).rows R4[i] (List.getElem_mem (by omega))
  refine numSum_spec (ks := R4[i].ks) ⟨_, .inr r4.rd⟩ (by rw [c4]; exact movR hg _ _) (by rw [c4]; have := movL_len l.mo l.st[i].sku l.st[i].loc; omega) ?_
  rw [c4, movL_sum, ex0, ex1]
  have kk3 := kk2.trans' hk3
  have bad : ¬ okS l l.st[i] → R (.int .i64 1) w3 := fun hn => h1 (fun hm => hn (okS_may hm (List.getElem_mem hlt))) w3 kk3
  have hh3 := (hk2.trans' hk3).get hh1 (by simp)
  simp only [fa_p, Nat.add_zero, Nat.zero_add, bq_neq, bV_b, decide_eq_true_eq, decide_eq_false_iff_not, Decidable.not_not]
  refine ⟨fun e => bad fun hh => e hh.1, fun e1 => ⟨fun e => bad fun hh => e hh.2.1, fun e2 => ?_⟩⟩
  rw [ldF hh3 (j := 3) (x := .int .i64 l.st[i].held) rfl]
  simp only [bq_neq, bV_b, decide_eq_true_eq, decide_eq_false_iff_not, Decidable.not_not]
  refine ⟨fun e => bad fun hh => e hh.2.2.1, fun e3 => ?_⟩
  rw [ldF hh3 (j := 2) (x := .int .i64 l.st[i].hand) rfl]
  simp only [bq_neq, bV_b, decide_eq_true_eq, decide_eq_false_iff_not, Decidable.not_not]
  refine ⟨fun e => bad fun hh => e hh.2.2.2, fun e4 => ?_⟩
  simp only [bq_add, hiw]
  refine hN (l.st.length - (i + 1)) _ w3 (by omega) ⟨i + 1, by omega, rfl, rfl, kk3, fun j hj hji => ?_⟩
  by_cases hje : j = i
  · subst hje; exact ⟨e1, e2, e3, e4⟩
  · exact hok j hj (by omega)
theorem moves_any {w : World} (hg : LRg l) (hfew : fullL l = false) (hso : Sorted l.st) (c : CkAt w0 w l x sv hv mv) {R3 R4 : List IE} (i3 : IRead w n3 R3) (i4 : IMap w w n4 R4) (s3 : Shape R3 l.st (actL l.ho)) (s4 : Shape R4 l.st (fun _ _ => [])) (h34 : n3 ≠ n4) (hb : ∀ y ∈ blksI R3, y ≠ n4) (h4 : w0.heap.size ≤ n4) (hx4 : x ≠ n4)
    (h0 : (∀ k (h : k < l.mo.length), moveB k l.mo[k] ∧ knownL l l.mo[k].sku l.mo[k].loc = true) → (∀ s ∈ l.st, okS l s) → ∀ w', Kp [] w0 w' → R (.int .i64 0) w') (h1 : ¬ May l → ∀ w', Kp [] w0 w' → R (.int .i64 1) w') : Fn49_L8 R (.pointer (some ⟨x, 0, none⟩)) (.map (some n3)) (.map (some n4)) mv (.int .i64 l.mo.length) (.int .i64 0) w := by
  have hfew' := hfew
  simp only [fullL, decide_eq_false_iff_not, not_or] at hfew
  unfold Fn49_L8
  refine loop_inv (fun m xs wi => ∃ i R4i, i ≤ l.mo.length ∧ m = l.mo.length - i ∧ xs = [.pointer (some ⟨x, 0, none⟩), .map (some n3), .map (some n4), mv, .int .i64 l.mo.length, .int .i64 (i : Nat)] ∧ IMap w wi n4 R4i ∧ Shape R4i l.st (movL (l.mo.take i)) ∧ ∀ k (h : k < l.mo.length), k < i → moveB k l.mo[k] ∧ knownL l l.mo[k].sku l.mo[k].loc = true) ?_ (m := l.mo.length) ⟨0, R4, by omega, rfl, rfl, i4, s4, fun k h hk => by omega⟩
  rintro m N xs wi ⟨i, R4i, hi, rfl, rfl, j4, t4, hok⟩ hN
  have hiw : IntKind.i64.wrap ((i : Int) + 1) = ((i + 1 : Nat) : Int) := by rw [w64 (by omega) (by omega)]; simp
  have ci := c.keepN j4.kp h4 hx4
  have j3 : IRead wi n3 R3 := i3.keepS j4.kp (by simpa using h34) (fun y hy => by simpa using hb y hy)
  have hl4 := t4.len
  unfold Fn49_L8F Fn49_s7
  simp [-getElem?_pos, -Array.all_eq_true, -Array.getElem?_eq_getElem, -List.length_flatten, gz0, gz1, -ldn_p, -stn_p, -newG_k]
  refine ⟨fun hlt => ?_, fun hge => ?_⟩
  · obtain ⟨p, hp1, hp2⟩ := rd_hold ci.m hlt
    unfold Fn49_s6
    rw [hp1, hp2]
    refine boxMove (o := l.mo[i]) (by kernel_rfl) fun b1 w1 hb1 hh1 hk1 => ?_
    have hh1' := hh1
    unfold hC at hh1'
    simp [-getElem?_pos, -Array.all_eq_true, -Array.getElem?_eq_getElem, -List.length_flatten, gz0, gz1, hh1', zcPl, bld_done, bld_if, offAt, putAt, -ldn_p, -stn_p, -newG_k]
    refine boxPl (a := l.mo[i].sku) (b := l.mo[i].loc) rfl fun b2 w2 hb2 hh2 hk2 => ?_
    rw [ldPl hh2]
    have kk2 := hk1.trans' hk2
    have c2 := ci.keep kk2
    refine map_get2 mapT (j4.keep kk2).map ?_
    simp only [ex0, ex1, un_not, bV_b]
    have badM : ¬ (moveB i l.mo[i] ∧ knownL l l.mo[i].sku l.mo[i].loc = true) → ¬ May l := fun hn hm => hn (by
      have hmv := hm.moves i hlt
      simp only [moveOk, Bool.and_eq_true, decide_eq_true_eq, beq_iff_eq] at hmv
      obtain ⟨⟨⟨⟨⟨⟨⟨⟨m1, m2⟩, m3⟩, m4⟩, m5⟩, m6⟩, m7⟩, m8⟩, m9⟩ := hmv
      exact ⟨⟨m1, m2, m3, m5, m6, m7, by by_cases q1 : l.mo[i].due = 0 <;> by_cases q2 : l.mo[i].st = 3 <;> simp [q1, q2] at m8 ⊢⟩, m9⟩)
    by_cases hkn : knownL l l.mo[i].sku l.mo[i].loc = true
    · obtain ⟨j, hj, k1, k2⟩ := known_at (known_find.1 hkn)
      have hjR : j < R4i.length := by omega
      obtain ⟨a4, b4, c4⟩ := t4.at hjR hj
      have hu : ∀ i' (hi' : i' < R4i.length), i' ≠ j → ¬(R4i[i'].a = R4i[j].a ∧ R4i[i'].b = R4i[j].b) := fun i' hi' hne => t4.uniq hso hi' hjR hne
      have f4 := findE_at (m := R4i.map IE.me) (k := 0) (i := j) (by simpa using hjR) (fun i' hi' hne => by
        have := hu i' (by simpa using hi') hne
        simpa [IE.me] using this)
      simp only [List.getElem_map, IE.me, a4, b4, k1, k2, Nat.zero_add] at f4
      rw [show findE l.mo[i].sku l.mo[i].loc (R4i.map IE.me) 0 = _ from f4]
      simp only [Option.isSome_some, Bool.not_true, Bool.false_eq_true, false_implies, true_and, true_implies]
      rw [ldHold (hk2.get hh1 (by simp))]
      refine move_any (by omega) fun w3 bb hk3 hbb => ?_
      have kk3 := kk2.trans' hk3
      simp only [un_not, bV_b]
      refine ⟨fun hf => h1 (badM fun hh => ?_) w3 (ci.keep kk3).kp, fun hf => ?_⟩
      · rw [hbb.2 hh.1] at hf; cases hf
      have hmB : moveB i l.mo[i] := hbb.1 (by simpa using hf)
      unfold Fn49_s5
      rw [ldPl (hk3.get hh2 (by simp))]
      have hh13 := (hk2.trans' hk3).get hh1' (by simp)
      simp [-getElem?_pos, -Array.all_eq_true, -Array.getElem?_eq_getElem, -List.length_flatten, gz0, gz1, hh13, -ldn_p, -stn_p, -newG_k]
      have hadd := im_add (P := prog) mapT (j4.keep kk3) hjR hu (by rw [c4]; have := movL_len (l.mo.take i) l.st[j].sku l.st[j].loc; have := List.length_take_le i l.mo; omega) l.mo[i].q (e := 3) (zz := zc prog 3) (K := fun w => Fn49_s4 R N (.pointer (some ⟨x, 0, none⟩)) (.map (some n3)) (.map (some n4)) mv (.int .i64 l.mo.length) (.int .i64 i) w)
        (fun w' v' S' hw' => ?_) (by kernel_rfl)
      · rw [a4, b4, k1, k2] at hadd
        exact hadd
      · unfold Fn49_s4
        simp [-getElem?_pos, -Array.all_eq_true, -Array.getElem?_eq_getElem, -List.length_flatten, gz0, gz1, hiw]
        have t5 := t4.add hso hjR l.mo[i].q v' S'
        refine hN (l.mo.length - (i + 1)) _ w' (by omega) ⟨i + 1, _, by omega, rfl, by simp, hw', ?_, fun k h hk => ?_⟩
        · have e : (fun x y => movL (l.mo.take i) x y ++ if R4i[j].a = x ∧ R4i[j].b = y then [l.mo[i].q] else []) = movL (l.mo.take (i + 1)) := by
            funext x y
            rw [List.take_succ_eq_append_getElem hlt, movL_snoc, a4, b4, k1, k2]
          rw [e] at t5
          exact t5
        · by_cases hke : k = i
          · subst hke; exact ⟨hmB, hkn⟩
          · exact hok k h (by omega)
    · have hnone : findE l.mo[i].sku l.mo[i].loc (R4i.map IE.me) 0 = none := by
        rw [findE_none]
        intro e he hk
        obtain ⟨r, hr, rfl⟩ := List.mem_map.1 he
        obtain ⟨j, hj, rfl⟩ := List.getElem_of_mem hr
        obtain ⟨a4, b4, _⟩ := t4.at hj (by omega)
        refine hkn (known_find.2 ⟨l.st[j], List.getElem_mem (by omega), ?_, ?_⟩)
        · rw [← a4]; exact hk.1.symm
        · rw [← b4]; exact hk.2.symm
      rw [hnone]
      simp only [Option.isSome_none, Bool.not_false, true_implies, Bool.true_eq_false, false_implies, and_true]
      exact h1 (badM fun hh => hkn hh.2) w2 c2.kp
  · have hie : i = l.mo.length := by omega
    subst hie
    rw [List.take_length] at t4
    unfold Fn49_s3
    have hx := ci.hx
    simp [-getElem?_pos, -Array.all_eq_true, -Array.getElem?_eq_getElem, -List.length_flatten, gz0, gz1, hx, ci.s.lenL]
    exact fin_any hg hfew' hso ci j3 j4.read s3 t4 (fun hs w' hk => h0 (fun k h => hok k h h) hs w' (ci.kp.trans' hk)) fun hn w' hk => h1 hn w' (ci.kp.trans' hk)
end
section
variable {w0 : World} {l : LV} {R : KW} {x n3 n4 : Nat} {sv hv mv : Value}
def holdK (l : LV) (k : Nat) (h : HV) : Prop := holdB k h ∧ (h.st = 0 → knownL l h.sku h.loc = true)
def moveK (l : LV) (k : Nat) (h : HV) : Prop := moveB k h ∧ knownL l h.sku h.loc = true
def stockB (s : SV) : Prop := nameOk s.sku = true ∧ nameOk s.loc = true ∧ 0 ≤ s.held ∧ s.held ≤ s.hand
theorem holds_any {w : World} (hg : LRg l) (hfew : fullL l = false) (hso : Sorted l.st) (c : CkAt w0 w l x sv hv mv) {R3 R4 : List IE} (i3 : IMap w w n3 R3) (i4 : IRead w n4 R4) (s3 : Shape R3 l.st (fun _ _ => [])) (s4 : Shape R4 l.st (fun _ _ => [])) (h34 : n3 ≠ n4) (hb : blksI R4 = []) (h3 : w0.heap.size ≤ n3) (h4 : w0.heap.size ≤ n4) (hx3 : x ≠ n3) (hx4 : x ≠ n4) (h4w : n4 < w.heap.size)
    (h0 : (∀ k (h : k < l.ho.length), holdK l k l.ho[k]) → (∀ k (h : k < l.mo.length), moveK l k l.mo[k]) → (∀ s ∈ l.st, okS l s) → ∀ w', Kp [] w0 w' → R (.int .i64 0) w') (h1 : ¬ May l → ∀ w', Kp [] w0 w' → R (.int .i64 1) w') : Fn49_L14 R (.pointer (some ⟨x, 0, none⟩)) (.map (some n3)) (.map (some n4)) hv (.int .i64 l.ho.length) (.int .i64 0) w := by
  have hfew' := hfew
  simp only [fullL, decide_eq_false_iff_not, not_or] at hfew
  unfold Fn49_L14
  refine loop_inv (fun m xs wi => ∃ i R3i, i ≤ l.ho.length ∧ m = l.ho.length - i ∧ xs = [.pointer (some ⟨x, 0, none⟩), .map (some n3), .map (some n4), hv, .int .i64 l.ho.length, .int .i64 (i : Nat)] ∧ IMap w wi n3 R3i ∧ Shape R3i l.st (actL (l.ho.take i)) ∧ ∀ k (h : k < l.ho.length), k < i → holdK l k l.ho[k]) ?_ (m := l.ho.length) ⟨0, R3, by omega, rfl, rfl, i3, s3, fun k h hk => by omega⟩
  rintro m N xs wi ⟨i, R3i, hi, rfl, rfl, j3, t3, hok⟩ hN
  have hiw : IntKind.i64.wrap ((i : Int) + 1) = ((i + 1 : Nat) : Int) := by rw [w64 (by omega) (by omega)]; simp
  have ci := c.keepN j3.kp h3 hx3
  have j4 : IRead wi n4 R4 := i4.keepS j3.kp (by simpa using Ne.symm h34) (by rw [hb]; simp)
  have hl3 := t3.len
  unfold Fn49_L14F Fn49_s13
  simp [-getElem?_pos, -Array.all_eq_true, -Array.getElem?_eq_getElem, -List.length_flatten, gz0, gz1, -ldn_p, -stn_p, -newG_k]
  refine ⟨fun hlt => ?_, fun hge => ?_⟩
  · obtain ⟨p, hp1, hp2⟩ := rd_hold ci.h hlt
    unfold Fn49_s12
    rw [hp1, hp2]
    refine boxHold (o := l.ho[i]) (by kernel_rfl) fun b1 w1 hb1 hh1 hk1 => ?_
    have hh1' := hh1
    unfold hC at hh1'
    simp [-getElem?_pos, -Array.all_eq_true, -Array.getElem?_eq_getElem, -List.length_flatten, gz0, gz1, hh1', zcPl, bld_done, bld_if, offAt, putAt, -ldn_p, -stn_p, -newG_k]
    refine boxPl (a := l.ho[i].sku) (b := l.ho[i].loc) rfl fun b2 w2 hb2 hh2 hk2 => ?_
    rw [ldPl hh2]
    have kk2 := hk1.trans' hk2
    refine map_get2 mapT (j3.keep kk2).map ?_
    simp [-getElem?_pos, -Array.all_eq_true, -Array.getElem?_eq_getElem, -List.length_flatten, gz0, gz1, -ldn_p, -stn_p, -newG_k]
    rw [ldHold (hk2.get hh1 (by simp))]
    have badH : ¬ holdK l i l.ho[i] → ¬ May l := fun hn hm => hn (by
      have hho := hm.holds i hlt
      simp only [holdOk, Bool.and_eq_true, Bool.or_eq_true, decide_eq_true_eq] at hho
      obtain ⟨⟨⟨⟨m1, m2⟩, m3⟩, m4, m5, m6, m7⟩, m8⟩ := hho
      exact ⟨⟨m1, m2, m3, m4, m5, m6, m7⟩, fun h => m8.resolve_left fun hh => hh h⟩)
    refine hold_any (by omega) fun w3 bb hk3 hbb => ?_
    have kk3 := kk2.trans' hk3
    have hh13 := (hk2.trans' hk3).get hh1' (by simp)
    have hsnoc : ∀ x y, actL (l.ho.take (i + 1)) x y = actL (l.ho.take i) x y ++ if l.ho[i].sku = x ∧ l.ho[i].loc = y ∧ l.ho[i].st = 0 then [l.ho[i].q] else [] := fun x y => by
      rw [List.take_succ_eq_append_getElem hlt, actL_snoc]
    simp only [un_not, bV_b]
    refine ⟨fun hf => h1 (badH fun hh => ?_) w3 (ci.keep kk3).kp, fun hf => ?_⟩
    · rw [hbb.2 hh.1] at hf; cases hf
    have hB : holdB i l.ho[i] := hbb.1 (by simpa using hf)
    have hstep : holdK l i l.ho[i] → ∀ k (h : k < l.ho.length), k < i + 1 → holdK l k l.ho[k] := fun hh k h hk => by
      by_cases hke : k = i
      · subst hke; exact hh
      · exact hok k h (by omega)
    simp [-getElem?_pos, -Array.all_eq_true, -Array.getElem?_eq_getElem, -List.length_flatten, gz0, gz1, hh13, -ldn_p, -stn_p, -newG_k]
    refine ⟨fun hs0 => ?_, fun hs0 => ?_⟩
    · by_cases hkn : knownL l l.ho[i].sku l.ho[i].loc = true
      · obtain ⟨j, hj, k1, k2⟩ := known_at (known_find.1 hkn)
        have hjR : j < R3i.length := by omega
        obtain ⟨a4, b4, c4⟩ := t3.at hjR hj
        have hu : ∀ i' (hi' : i' < R3i.length), i' ≠ j → ¬(R3i[i'].a = R3i[j].a ∧ R3i[i'].b = R3i[j].b) := fun i' hi' hne => t3.uniq hso hi' hjR hne
        have f4 := findE_at (m := R3i.map IE.me) (k := 0) (i := j) (by simpa using hjR) (fun i' hi' hne => by
          have := hu i' (by simpa using hi') hne
          simpa [IE.me] using this)
        simp only [List.getElem_map, IE.me, a4, b4, k1, k2, Nat.zero_add] at f4
        have f4' : findE l.ho[i].sku l.ho[i].loc (R3i.map IE.me) 0 = _ := f4
        rw [f4']
        simp only [Option.isSome_some, reduceCtorEq, false_implies, implies_true, true_implies, true_and]
        unfold Fn49_s11
        simp [-getElem?_pos, -Array.all_eq_true, -Array.getElem?_eq_getElem, -List.length_flatten, gz0, gz1, hh13, hs0, -ldn_p, -stn_p, -newG_k]
        rw [ldPl (hk3.get hh2 (by simp))]
        have hadd := im_add (P := prog) mapT (j3.keep kk3) hjR hu (by rw [c4]; have := actL_len (l.ho.take i) l.st[j].sku l.st[j].loc; have := List.length_take_le i l.ho; omega) l.ho[i].q (e := 3) (zz := zc prog 3) (K := fun w => Fn49_s10 R N (.pointer (some ⟨x, 0, none⟩)) (.map (some n3)) (.map (some n4)) hv (.int .i64 l.ho.length) (.int .i64 i) w)
          (fun w' v' S' hw' => ?_) (by kernel_rfl)
        · rw [a4, b4, k1, k2] at hadd
          exact hadd
        · unfold Fn49_s10
          simp [-getElem?_pos, -Array.all_eq_true, -Array.getElem?_eq_getElem, -List.length_flatten, gz0, gz1, hiw]
          have t5 := t3.add hso hjR l.ho[i].q v' S'
          refine hN (l.ho.length - (i + 1)) _ w' (by omega) ⟨i + 1, _, by omega, rfl, by simp, hw', ?_, hstep ⟨hB, fun _ => hkn⟩⟩
          have e : (fun x y => actL (l.ho.take i) x y ++ if R3i[j].a = x ∧ R3i[j].b = y then [l.ho[i].q] else []) = actL (l.ho.take (i + 1)) := by
            funext x y
            rw [hsnoc, a4, b4, k1, k2]
            simp only [hs0, and_true]
          rw [e] at t5
          exact t5
      · have hnone : findE l.ho[i].sku l.ho[i].loc (R3i.map IE.me) 0 = none := by
          rw [findE_none]
          intro e he hk
          obtain ⟨r, hr, rfl⟩ := List.mem_map.1 he
          obtain ⟨j, hj, rfl⟩ := List.getElem_of_mem hr
          obtain ⟨a4, b4, _⟩ := t3.at hj (by omega)
          refine hkn (known_find.2 ⟨l.st[j], List.getElem_mem (by omega), ?_, ?_⟩)
          · rw [← a4]; exact hk.1.symm
          · rw [← b4]; exact hk.2.symm
        rw [hnone]
        simp only [Option.isSome_none, reduceCtorEq, false_implies, implies_true, true_implies, and_true]
        exact h1 (badH fun hh => hkn (hh.2 hs0)) w3 (ci.keep kk3).kp
    · unfold Fn49_s11
      simp [-getElem?_pos, -Array.all_eq_true, -Array.getElem?_eq_getElem, -List.length_flatten, gz0, gz1, hh13, hs0, -ldn_p, -stn_p, -newG_k]
      unfold Fn49_s10
      simp [-getElem?_pos, -Array.all_eq_true, -Array.getElem?_eq_getElem, -List.length_flatten, gz0, gz1, hiw]
      refine hN (l.ho.length - (i + 1)) _ w3 (by omega) ⟨i + 1, R3i, by omega, rfl, by simp, j3.keep kk3, ?_, hstep ⟨hB, fun h => absurd h hs0⟩⟩
      have e : actL (l.ho.take i) = actL (l.ho.take (i + 1)) := by
        funext x y
        rw [hsnoc, if_neg (fun hh => hs0 hh.2.2), List.append_nil]
      rw [← e]
      exact t3
  · have hie : i = l.ho.length := by omega
    subst hie
    rw [List.take_length] at t3
    unfold Fn49_s9
    have hx := ci.hx
    simp [-getElem?_pos, -Array.all_eq_true, -Array.getElem?_eq_getElem, -List.length_flatten, gz0, gz1, hx, ci.m.lenL]
    have hsz := j3.kp.size
    refine moves_any hg hfew' hso ci j3.read ⟨j4.map, j4.rows, by rw [hb]; simp, by rw [hb]; simp, by omega, Kp.refl _ _⟩ t3 s4 h34 (fun y hy => ?_) h4 hx4 (fun hm hs => h0 (fun k h => hok k h h) hm hs) h1
    have := j3.new y hy
    omega
theorem sorted_step {st : List SV} {i : Nat} (hlt : i < st.length) (hs : Sorted (st.take i)) (h : ∀ hp : 0 < i, Q.ahead (st[i - 1]'(by omega)) st[i] = true) : Sorted (st.take (i + 1)) := by
  rw [List.take_succ_eq_append_getElem hlt]
  refine List.pairwise_append.2 ⟨hs, List.pairwise_singleton _ _, fun a ha b hb => ?_⟩
  simp only [List.mem_singleton] at hb
  subst hb
  obtain ⟨j, hj, rfl⟩ := List.getElem_of_mem ha
  simp only [List.length_take] at hj
  rw [List.getElem_take]
  have hp : 0 < i := by omega
  by_cases hje : j = i - 1
  · subst hje; exact h hp
  · have h1 : Q.ahead st[j] (st[i - 1]'(by omega)) = true := by
      have := List.pairwise_iff_getElem.1 hs j (i - 1) (by simp; omega) (by simp; omega) (by omega)
      simpa [List.getElem_take] using this
    exact ahead_trans h1 (h hp)
theorem stocks_any {w : World} (hg : LRg l) (hfew : fullL l = false) (c : CkAt w0 w l x sv hv mv) (i3 : MapIs w n3 []) (i4 : MapIs w n4 []) (h34 : n3 ≠ n4) (h3 : w0.heap.size ≤ n3) (h4 : w0.heap.size ≤ n4) (hx3 : x ≠ n3) (hx4 : x ≠ n4)
    (h0 : Sorted l.st → (∀ s ∈ l.st, stockB s) → (∀ k (h : k < l.ho.length), holdK l k l.ho[k]) → (∀ k (h : k < l.mo.length), moveK l k l.mo[k]) → (∀ s ∈ l.st, okS l s) → ∀ w', Kp [] w0 w' → R (.int .i64 0) w') (h1 : ¬ May l → ∀ w', Kp [] w0 w' → R (.int .i64 1) w') : Fn49_L20 R (.pointer (some ⟨x, 0, none⟩)) (.map (some n3)) (.map (some n4)) sv (.int .i64 l.st.length) (.int .i64 0) w := by
  have hfew' := hfew
  simp only [fullL, decide_eq_false_iff_not, not_or] at hfew
  unfold Fn49_L20
  refine loop_inv (fun m xs wi => ∃ i, i ≤ l.st.length ∧ m = l.st.length - i ∧ xs = [.pointer (some ⟨x, 0, none⟩), .map (some n3), .map (some n4), sv, .int .i64 l.st.length, .int .i64 (i : Nat)] ∧
      MapIs wi n3 (((l.st.take i).map nilI).map IE.me) ∧ MapIs wi n4 (((l.st.take i).map nilI).map IE.me) ∧ CkAt w0 wi l x sv hv mv ∧ Sorted (l.st.take i) ∧ ∀ k (h : k < l.st.length), k < i → stockB l.st[k]) ?_ (m := l.st.length) ⟨0, by omega, rfl, rfl, i3, i4, c, List.Pairwise.nil, fun k h hk => by omega⟩
  rintro m N xs wi ⟨i, hi, rfl, rfl, j3, j4, ci, hso, hok⟩ hN
  have hiw : IntKind.i64.wrap ((i : Int) + 1) = ((i + 1 : Nat) : Int) := by rw [w64 (by omega) (by omega)]; simp
  unfold Fn49_L20F Fn49_s19
  simp [-getElem?_pos, -Array.all_eq_true, -Array.getElem?_eq_getElem, -List.length_flatten, gz0, gz1, -ldn_p, -stn_p, -newG_k]
  refine ⟨fun hlt => ?_, fun hge => ?_⟩
  · have bad : ∀ w', Kp [] wi w' → ¬ stockB l.st[i] → R (.int .i64 1) w' := fun w' hk hn => h1 (fun hm => hn (by
      obtain ⟨m1, m2, m3, m4, m5, _, _⟩ := hm.f.ok l.st[i] (List.getElem_mem hlt)
      exact ⟨m1, m2, m4, m5⟩)) w' (ci.keep hk).kp
    obtain ⟨p, hp1, hp2⟩ := rd_stock ci.s hlt
    unfold Fn49_s18
    rw [hp1, hp2]
    refine boxStock (o := l.st[i]) (by kernel_rfl) fun b1 w1 hb1 hh1 hk1 => ?_
    have hk1d : Kp [] wi w1.drew := hk1.trans' kp_drew
    have hh1d : w1.drew.heap[b1]? = some (.cells (sC l.st[i]).toArray 48) := kp_drew.get hh1 (by simp)
    simp only [fa_p, Nat.add_zero, Nat.zero_add]
    rw [ldF hh1d (j := 0) (x := .string (str l.st[i].sku)) rfl]
    refine lname_spec l.st[i].sku ?_
    simp only [un_not, bV_b]
    refine ⟨fun e => bad _ hk1d fun hh => (by rw [hh.1] at e; cases e), fun m1 => ?_⟩
    rw [ldF hh1d (j := 1) (x := .string (str l.st[i].loc)) rfl]
    refine lname_spec l.st[i].loc ?_
    simp only [un_not, bV_b]
    refine ⟨fun e => bad _ hk1d fun hh => (by rw [hh.2.1] at e; cases e), fun m2 => ?_⟩
    rw [ldF hh1d (j := 3) (x := .int .i64 l.st[i].held) rfl]
    simp only [bq_lss, bV_b, decide_eq_true_eq, decide_eq_false_iff_not]
    refine ⟨fun e => bad _ hk1d fun hh => by have := hh.2.2.1; omega, fun m4 => ?_⟩
    rw [ldF hh1d (j := 3) (x := .int .i64 l.st[i].held) rfl, ldF hh1d (j := 2) (x := .int .i64 l.st[i].hand) rfl]
    simp only [bq_gtr, bV_b, decide_eq_true_eq, decide_eq_false_iff_not]
    refine ⟨fun e => bad _ hk1d fun hh => by have := hh.2.2.2; omega, fun m5 => ?_⟩
    have hB : stockB l.st[i] := ⟨by simpa using m1, by simpa using m2, by omega, by omega⟩
    have hs17 : Sorted (l.st.take (i + 1)) → ∀ w2, Kp [] w1 w2 → Fn49_s17 R N (.pointer (some ⟨x, 0, none⟩)) (.map (some n3)) (.map (some n4)) (.pointer (some ⟨b1, 0, none⟩)) sv (.int .i64 l.st.length) (.int .i64 i) w2 := by
      intro hso1 w2 hk2
      unfold Fn49_s17
      have hh2 := hk2.get hh1 (by simp)
      have hh2d := kp_drew.get hh2 (by simp)
      rw [ldStock hh2d, ldStock hh2d]
      refine of_spec7 l.st[i] fun w3 hk3 => ?_
      rw [ldStock (hk3.get hh2d (by simp))]
      refine ⟨rfl, of_spec7 l.st[i] fun w4 hk4 => ?_⟩
      have kk : Kp [] wi w4 := ((hk1.trans' hk2).trans' (kp_drew.trans' hk3)).trans' hk4
      have c4 := ci.keep kk
      have q3 := j3.keep kk (by simp)
      have q4 := j4.keep kk (by simp)
      have hne : findE l.st[i].sku l.st[i].loc (((l.st.take i).map nilI).map IE.me) 0 = none := by
        have := nil_none hso1 (i := i) (by simp; omega)
        simpa [List.getElem_take, List.take_take, Nat.min_eq_left (Nat.le_succ i)] using this
      refine map_entry_new mapT q3 hne fun w5 q5 hk5 => ?_
      simp [-getElem?_pos, -Array.all_eq_true, -Array.getElem?_eq_getElem, -List.length_flatten, gz0, gz1, -ldn_p, -stn_p, -newG_k]
      have hlen : (((l.st.take i).map nilI).map IE.me).length = i := by simp; omega
      obtain ⟨X, hX⟩ : ∃ X, X = (((l.st.take i).map nilI).map IE.me) ++ [(⟨l.st[i].sku, l.st[i].loc, .slice none 0 0⟩ : ME)] := ⟨_, rfl⟩
      rw [← hX] at q5
      have q5l : i < X.length := by rw [hX, List.length_append, hlen]; simp
      have hst := map_store (P := prog) (T := 97) q5 q5l (v := .slice none 0 0) (K := fun w => uG prog (Instr.mapUpdate 97 (.map (some n4)) (keyV l.st[i].sku l.st[i].loc) (.slice none 0 0)) w fun w => Fn49_s16 R N (.pointer (some ⟨x, 0, none⟩)) (.map (some n3)) (.map (some n4)) sv (.int .i64 l.st.length) (.int .i64 i) w) ?_
      · simpa [hlen, Nat.min_eq_left (Nat.le_of_lt hlt)] using hst
      intro w6 q6 hk6
      have hgi : X[i] = (⟨l.st[i].sku, l.st[i].loc, .slice none 0 0⟩ : ME) := by
        simp only [hX]
        rw [List.getElem_append_right (by omega)]
        simp [hlen]
      have e6 : X.set i { X[i] with v := .slice none 0 0 } = ((l.st.take (i + 1)).map nilI).map IE.me := by
        have hv : ({ X[i] with v := .slice none 0 0 } : ME) = X[i] := by rw [hgi]
        rw [hv, List.set_getElem_self, hX, nil_snoc hlt]
      rw [e6] at q6
      have q46 := (q4.keep hk5 (by simpa using Ne.symm h34)).keep hk6 (by simpa using Ne.symm h34)
      refine map_update_new mapT q46 hne fun w7 q7 hk7 => ?_
      rw [nil_snoc hlt] at q7
      unfold Fn49_s16
      simp [-getElem?_pos, -Array.all_eq_true, -Array.getElem?_eq_getElem, -List.length_flatten, gz0, gz1, hiw]
      have c7 := ((c4.keepN hk5 h3 hx3).keepN hk6 h3 hx3).keepN hk7 h4 hx4
      exact hN (l.st.length - (i + 1)) _ w7 (by omega) ⟨i + 1, by omega, rfl, by simp, q6.keep hk7 (by simpa using h34), q7, c7, hso1, fun k h hk => by
        by_cases hke : k = i
        · subst hke; exact hB
        · exact hok k h (by omega)⟩
    have c1 := ci.keep hk1d
    have hx1 := c1.hx
    refine ⟨fun hpos => ?_, fun hz => hs17 (sorted_step hlt hso fun hp => by omega) _ kp_drew⟩
    have hiw' : IntKind.i64.wrap ((i : Int) - 1) = ((i - 1 : Nat) : Int) := by rw [w64 (by omega) (by omega)]; omega
    obtain ⟨p', hp1', hp2'⟩ := rd_stock c1.s (i := i - 1) (by omega)
    rw [ldF hx1 (j := 0) (x := sv) rfl]
    simp only [bq_sub, hiw']
    rw [hp1', hp2', ldStock hh1d]
    refine of_spec7 l.st[i - 1] fun w2 hk2 => ?_
    rw [ldStock (hk2.get hh1d (by simp))]
    refine ⟨rfl, of_spec7 l.st[i] fun w3 hk3 => ?_⟩
    refine order_spec _ _ _ _ fun w4 hk4 => ?_
    simp only [bq_geq, bV_b, decide_eq_true_eq, decide_eq_false_iff_not]
    have kk := ((kp_drew.trans' hk2).trans' hk3).trans' hk4
    refine ⟨fun hn => h1 (fun hm => ?_) w4 (ci.keep (hk1.trans' kk)).kp, fun hp => hs17 (sorted_step hlt hso fun _ => ordL_neg.1 (by omega)) w4 kk⟩
    have hneg : ordL l.st[i - 1].sku l.st[i - 1].loc l.st[i].sku l.st[i].loc < 0 := by
      rw [ordL_neg]
      exact List.pairwise_iff_getElem.1 hm.sorted (i - 1) i (by omega) hlt (by omega)
    omega
  · have hie : i = l.st.length := by omega
    subst hie
    rw [List.take_length] at j3 j4 hso
    unfold Fn49_s15
    have hx := ci.hx
    simp [-getElem?_pos, -Array.all_eq_true, -Array.getElem?_eq_getElem, -List.length_flatten, gz0, gz1, hx, ci.h.lenL]
    refine holds_any hg hfew' hso ci ⟨j3, (nil_read j3).rows, by rw [nil_blks]; simp, by rw [nil_blks]; simp, lt_of_blk j3, Kp.refl _ _⟩ (nil_read j4) (nil_shape _) (nil_shape _) h34 (nil_blks _) h3 h4 hx3 hx4 (lt_of_blk j4) (fun hh hm hs => h0 hso (fun s hs => by
      obtain ⟨k, hk, rfl⟩ := List.getElem_of_mem hs
      exact hok k hk hk) hh hm hs) h1
theorem may_of (hg : LRg l) (hops : 0 ≤ l.ops) (hfew : fullL l = false) (hso : Sorted l.st) (hS : ∀ s ∈ l.st, stockB s) (hH : ∀ k (h : k < l.ho.length), holdK l k l.ho[k]) (hM : ∀ k (h : k < l.mo.length), moveK l k l.mo[k]) (hO : ∀ s ∈ l.st, okS l s) : May l where
  ops := hops
  few := hfew
  sorted := hso
  stocks := fun s hs => by
    obtain ⟨a1, a2, a3, a4⟩ := hS s hs
    obtain ⟨b1, b2, b3⟩ := okS_eq (hO s hs)
    unfold stockOk
    simp only [Bool.and_eq_true, decide_eq_true_eq]
    exact ⟨⟨⟨⟨a1, a2⟩, a3, a4⟩, b1⟩, b2, b3⟩
  holds := fun k h => by
    obtain ⟨⟨m1, m2, m3, m4, m5, m6, m7⟩, m8⟩ := hH k h
    simp only [holdOk, Bool.and_eq_true, Bool.or_eq_true, decide_eq_true_eq]
    refine ⟨⟨⟨⟨m1, m2⟩, m3⟩, m4, m5, m6, m7⟩, ?_⟩
    by_cases h0 : l.ho[k].st = 0
    · exact .inr (m8 h0)
    · exact .inl h0
  moves := fun k h => by
    obtain ⟨⟨m1, m2, m3, m5, m6, m7, m8⟩, m9⟩ := hM k h
    have mf : fits l.mo[k].q = true := fits_rng.2 (hg.mo _ (List.getElem_mem h)).1
    simp only [moveOk, Bool.and_eq_true, decide_eq_true_eq, beq_iff_eq]
    refine ⟨⟨⟨⟨⟨⟨⟨⟨m1, m2⟩, m3⟩, mf⟩, m5⟩, m6⟩, m7⟩, ?_⟩, m9⟩
    by_cases q1 : l.mo[k].due = 0 <;> by_cases q2 : l.mo[k].st = 3 <;> simp [q1, q2] at m8 ⊢
theorem Check_any {w : World} {v : Value} (hg : LRg l) (hfew : fullL l = false) (hv : LedAt w v l) {K : KW} (h0 : May l → ∀ w', Kp [] w w' → K (.int .i64 0) w') (h1 : ¬ May l → ∀ w', Kp [] w w' → K (.int .i64 1) w') : callG prog 22 #[v] w K := by
  refine Fn49_call ?_
  obtain ⟨a, b, c, rfl, r1', r2', r3'⟩ := hv
  have hfew' := hfew
  simp only [fullL, decide_eq_false_iff_not, not_or] at hfew
  unfold Fn49 Fn49_s23
  refine argBox (cs := [a, b, c, .int .i64 l.ops]) fun x w1 hx1 hh1 hk1 => ?_
  have r1 := r1'.keep hk1
  have r2 := r2'.keep hk1
  have r3 := r3'.keep hk1
  have hmx : ¬ (4096 < max (max (l.st.length : Int) l.ho.length) l.mo.length) := by omega
  simp only [fa_p, Nat.add_zero, Nat.zero_add]
  rw [ldF hh1 (j := 3) (x := .int .i64 l.ops) rfl]
  simp only [bq_lss, bV_b, decide_eq_true_eq, decide_eq_false_iff_not]
  refine ⟨fun e => h1 (fun hm => by have := hm.ops; omega) w1 hk1, fun hops => ?_⟩
  rw [ldF hh1 (j := 0) (x := a) rfl, r1.lenL, ldF hh1 (j := 1) (x := b) rfl, r2.lenL, ldF hh1 (j := 2) (x := c) rfl, r3.lenL, max3]
  simp only [List.length_map, bq_gtr, bV_b, decide_eq_true_eq, decide_eq_false_iff_not]
  refine ⟨fun h => absurd h hmx, fun _ => ?_⟩
  unfold Fn49_s22
  refine map_new fun q3 => ?_
  obtain ⟨w2, hw2⟩ := ex_w (w' := w1.alloc (.map #[] 0))
  obtain ⟨n3, hn3⟩ : ∃ n3, n3 = w1.heap.size := ⟨_, rfl⟩
  rw [← hw2, ← hn3] at q3 ⊢
  have k2 : Kp [] w1 w2 := by rw [hw2]; exact kp_alloc
  refine map_new fun q4 => ?_
  obtain ⟨w3, hw3⟩ := ex_w (w' := w2.alloc (.map #[] 0))
  obtain ⟨n4, hn4⟩ : ∃ n4, n4 = w2.heap.size := ⟨_, rfl⟩
  rw [← hw3, ← hn4] at q4 ⊢
  have k3 : Kp [] w2 w3 := by rw [hw3]; exact kp_alloc
  unfold Fn49_s21
  have hxx := (k2.trans' k3).get hh1 (by simp)
  have hxl := lt_of_blk hh1
  have h3l := lt_of_blk q3
  have hs1 := hk1.size
  have ck : CkAt w w3 l x a b c := ⟨hxx, r1', r2', r3', (hk1.trans' k2).trans' k3, hx1⟩
  simp [-getElem?_pos, -Array.all_eq_true, -Array.getElem?_eq_getElem, -List.length_flatten, gz0, gz1, hxx, ck.s.lenL]
  exact stocks_any hg hfew' ck (q3.keep k3 (by simp)) q4 (by omega) (by omega) (by omega) (by omega) (by omega) (fun hso hS hH hM hO => h0 (may_of hg (by omega) hfew' hso hS hH hM hO)) h1
theorem may_rg (hm : May l) : LRg l where
  ho := fun h hh => by
    obtain ⟨k, hk, rfl⟩ := List.getElem_of_mem hh
    have hfew := hm.few
    simp only [fullL, decide_eq_false_iff_not, not_or] at hfew
    have hho := hm.holds k hk
    simp only [holdOk, Bool.and_eq_true, decide_eq_true_eq] at hho
    refine ⟨fun h0 => ?_, ?_⟩
    · obtain ⟨_, _, f3, f4, f5, f6, _, _⟩ := act_facts hm.m hk h0
      have := fits_iff.1 f6
      unfold rngI
      omega
    · rw [hho.1.1.1.1]
      unfold rngI
      omega
  mo := fun h hh => by
    obtain ⟨k, hk, rfl⟩ := List.getElem_of_mem hh
    have hfew := hm.few
    simp only [fullL, decide_eq_false_iff_not, not_or] at hfew
    have := hm.moves k hk
    simp only [moveOk, Bool.and_eq_true, decide_eq_true_eq] at this
    refine ⟨rngI_fits this.1.1.1.1.1.2, ?_⟩
    rw [this.1.1.1.1.1.1.1.1]
    unfold rngI
    omega
theorem Check_spec7 {w : World} {v : Value} (hm : May l) (hv : LedAt w v l) {K : KW} (hK : ∀ w', Kp [] w w' → K (.int .i64 0) w') : callG prog 22 #[v] w K := Check_any (may_rg hm) hm.few hv (fun _ => hK) fun hn => absurd hm hn
end
end Go.Proofs

